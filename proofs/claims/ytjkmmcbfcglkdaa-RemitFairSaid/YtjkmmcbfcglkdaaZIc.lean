/- The given functions as the walk reads them: each constant is what the program's text comes to. No condition. -/
import Derived.Test.YtjkmmcbfcglkdaaA7
import Derived.Test.YtjkmmcbfcglkdaaA6
import Derived.Test.YtjkmmcbfcglkdaaProg
import Derived.KernelRfl
set_option linter.all false
namespace Go.Proofs.Ytjkmmcbfcglkdaa
open Go Ar
set_option linter.unusedVariables false
set_option maxRecDepth 100000

abbrev gl0 : Nat → AV := fun _ => .any
theorem gl0n : ∀ i, nf (gl0 i) := fun _ => trivial
theorem gl0w : GlW gl0 := glw_any (fun _ => rfl)
theorem mixed : Try.prog.follows .mixedOrders = true := rfl

abbrev zi : AV := .val (.int .i64 0)
abbrev zs : AV := .val (.slice none 0 0)
abbrev zc (a : AV) : AV := .cons zi a
abbrev zf (a : AV) : AV := .cons (.val (.bool false)) a
abbrev ci (n : Int) : X := .c (.int .i64 n)
abbrev cf : X := .c (.bool false)
abbrev ct : X := .c (.bool true)
abbrev em (d : Nat) (x : X) : Ent := .o d (.mv x)
abbrev eb (d : Nat) (b : BinOp) (x y : X) : Ent := .o d (.bin b x y)
abbrev el (d : Nat) (g : Bool) (n : Nat) (x : X) : Ent := .o d (.ld g n x)
abbrev ef (d k o : Nat) (x : X) : Ent := .o d (.fa k o x)
abbrev ex (d k : Nat) (x : X) : Ent := .o d (.ext k x)
abbrev es (d e : Nat) (x i : X) : Ent := .o d (.ixs e x i)
abbrev ec (d f : Nat) (l : List X) : Ent := .o d (.call f l)
abbrev io (l : List Ent) : IC := .ops l
abbrev t0 : X := .t 0
abbrev t1 : X := .t 1
abbrev t2 : X := .t 2
abbrev t3 : X := .t 3
abbrev t4 : X := .t 4
abbrev t5 : X := .t 5
abbrev t6 : X := .t 6
abbrev t7 : X := .t 7
abbrev t8 : X := .t 8
abbrev t9 : X := .t 9
abbrev t10 : X := .t 10
abbrev t11 : X := .t 11
abbrev t12 : X := .t 12
abbrev t13 : X := .t 13
abbrev t14 : X := .t 14
abbrev t15 : X := .t 15
abbrev t16 : X := .t 16
abbrev t17 : X := .t 17
abbrev t18 : X := .t 18
abbrev t19 : X := .t 19
abbrev t20 : X := .t 20
abbrev t21 : X := .t 21
abbrev t22 : X := .t 22
abbrev t23 : X := .t 23
abbrev t24 : X := .t 24
abbrev t25 : X := .t 25
abbrev t26 : X := .t 26
abbrev t27 : X := .t 27
abbrev t28 : X := .t 28
abbrev t29 : X := .t 29
abbrev t30 : X := .t 30
abbrev t31 : X := .t 31
abbrev t32 : X := .t 32
abbrev t33 : X := .t 33
abbrev t34 : X := .t 34
abbrev t35 : X := .t 35
abbrev t36 : X := .t 36
abbrev t37 : X := .t 37
abbrev t38 : X := .t 38
abbrev t39 : X := .t 39
abbrev t40 : X := .t 40
abbrev t41 : X := .t 41
abbrev t42 : X := .t 42
abbrev t43 : X := .t 43
abbrev t44 : X := .t 44
abbrev t45 : X := .t 45
abbrev t46 : X := .t 46
abbrev t47 : X := .t 47
abbrev t48 : X := .t 48
abbrev t49 : X := .t 49
abbrev t50 : X := .t 50
abbrev t51 : X := .t 51
abbrev t52 : X := .t 52
abbrev t53 : X := .t 53
abbrev t54 : X := .t 54
abbrev t55 : X := .t 55
abbrev t56 : X := .t 56
abbrev t57 : X := .t 57
abbrev t58 : X := .t 58
abbrev t59 : X := .t 59
abbrev t60 : X := .t 60
abbrev t61 : X := .t 61
abbrev t62 : X := .t 62
abbrev t63 : X := .t 63
abbrev t64 : X := .t 64
abbrev t65 : X := .t 65
abbrev t66 : X := .t 66
abbrev t67 : X := .t 67
abbrev t68 : X := .t 68
abbrev t69 : X := .t 69
abbrev t70 : X := .t 70
abbrev t71 : X := .t 71
abbrev t72 : X := .t 72
abbrev t73 : X := .t 73
abbrev t74 : X := .t 74
abbrev t75 : X := .t 75
abbrev t76 : X := .t 76
abbrev t77 : X := .t 77
abbrev t78 : X := .t 78
abbrev t79 : X := .t 79
abbrev t80 : X := .t 80
abbrev t81 : X := .t 81
abbrev t82 : X := .t 82
abbrev t83 : X := .t 83
abbrev t84 : X := .t 84
abbrev t85 : X := .t 85
abbrev t86 : X := .t 86
abbrev t87 : X := .t 87
abbrev t88 : X := .t 88
abbrev t89 : X := .t 89
abbrev t90 : X := .t 90
abbrev t91 : X := .t 91
abbrev t92 : X := .t 92
abbrev t93 : X := .t 93
abbrev t94 : X := .t 94
abbrev t95 : X := .t 95
abbrev t96 : X := .t 96
abbrev t97 : X := .t 97
abbrev t98 : X := .t 98
abbrev t99 : X := .t 99
abbrev t100 : X := .t 100
abbrev t101 : X := .t 101
abbrev t102 : X := .t 102
abbrev t103 : X := .t 103
abbrev t104 : X := .t 104
abbrev t105 : X := .t 105
abbrev t106 : X := .t 106
abbrev t107 : X := .t 107
abbrev t108 : X := .t 108
abbrev t109 : X := .t 109
abbrev t110 : X := .t 110
abbrev t111 : X := .t 111
abbrev t112 : X := .t 112
abbrev t113 : X := .t 113
abbrev t114 : X := .t 114
abbrev t115 : X := .t 115
abbrev t116 : X := .t 116
abbrev t117 : X := .t 117
abbrev t118 : X := .t 118
abbrev t119 : X := .t 119
abbrev t120 : X := .t 120
abbrev t121 : X := .t 121
abbrev t122 : X := .t 122
abbrev t123 : X := .t 123
abbrev t124 : X := .t 124
abbrev t125 : X := .t 125
abbrev t126 : X := .t 126
abbrev t127 : X := .t 127
abbrev t128 : X := .t 128
abbrev t129 : X := .t 129
abbrev t130 : X := .t 130
abbrev t131 : X := .t 131
abbrev t132 : X := .t 132
abbrev t133 : X := .t 133
abbrev t134 : X := .t 134
abbrev t135 : X := .t 135
abbrev t136 : X := .t 136
abbrev t137 : X := .t 137
abbrev t138 : X := .t 138
abbrev t139 : X := .t 139
abbrev t140 : X := .t 140
abbrev t141 : X := .t 141
abbrev t142 : X := .t 142
abbrev t143 : X := .t 143
abbrev t144 : X := .t 144
abbrev t145 : X := .t 145
abbrev t146 : X := .t 146
abbrev t147 : X := .t 147
abbrev t148 : X := .t 148
abbrev t149 : X := .t 149
abbrev t150 : X := .t 150
abbrev t151 : X := .t 151
abbrev t152 : X := .t 152
abbrev t153 : X := .t 153
abbrev t154 : X := .t 154
abbrev t155 : X := .t 155
abbrev t156 : X := .t 156
abbrev t157 : X := .t 157
abbrev t158 : X := .t 158
abbrev t159 : X := .t 159
abbrev t160 : X := .t 160
abbrev t161 : X := .t 161
abbrev t162 : X := .t 162
abbrev t163 : X := .t 163
abbrev t164 : X := .t 164
abbrev t165 : X := .t 165
abbrev t166 : X := .t 166
abbrev t167 : X := .t 167
abbrev t168 : X := .t 168
abbrev t169 : X := .t 169
abbrev t170 : X := .t 170
abbrev t171 : X := .t 171
abbrev t172 : X := .t 172
abbrev t173 : X := .t 173
abbrev t174 : X := .t 174
abbrev t175 : X := .t 175
abbrev t176 : X := .t 176
abbrev t177 : X := .t 177
abbrev t178 : X := .t 178
abbrev t179 : X := .t 179
abbrev t180 : X := .t 180
abbrev t181 : X := .t 181
abbrev t182 : X := .t 182
abbrev t183 : X := .t 183
abbrev t184 : X := .t 184
abbrev t185 : X := .t 185
abbrev t186 : X := .t 186
abbrev t187 : X := .t 187
abbrev t188 : X := .t 188
abbrev t189 : X := .t 189
abbrev t190 : X := .t 190
abbrev t191 : X := .t 191
abbrev t192 : X := .t 192
abbrev t193 : X := .t 193
abbrev t194 : X := .t 194
abbrev t195 : X := .t 195
abbrev t196 : X := .t 196
abbrev t197 : X := .t 197
abbrev t198 : X := .t 198
abbrev t199 : X := .t 199
abbrev t200 : X := .t 200
abbrev t201 : X := .t 201
abbrev t202 : X := .t 202
abbrev t203 : X := .t 203
abbrev t204 : X := .t 204
abbrev t205 : X := .t 205
abbrev t206 : X := .t 206
abbrev t207 : X := .t 207
abbrev t208 : X := .t 208
abbrev t209 : X := .t 209
abbrev t210 : X := .t 210
abbrev t211 : X := .t 211
abbrev t212 : X := .t 212
abbrev t213 : X := .t 213
abbrev t214 : X := .t 214
abbrev t215 : X := .t 215
abbrev t216 : X := .t 216
abbrev t217 : X := .t 217
abbrev t218 : X := .t 218
abbrev t219 : X := .t 219
abbrev t220 : X := .t 220
abbrev t221 : X := .t 221
abbrev t222 : X := .t 222
abbrev t223 : X := .t 223
abbrev t224 : X := .t 224
abbrev t225 : X := .t 225
abbrev t226 : X := .t 226
abbrev t227 : X := .t 227
abbrev t228 : X := .t 228
abbrev t229 : X := .t 229
abbrev t230 : X := .t 230
abbrev t231 : X := .t 231
abbrev t232 : X := .t 232
abbrev t233 : X := .t 233
abbrev t234 : X := .t 234
abbrev t235 : X := .t 235
abbrev t236 : X := .t 236
abbrev t237 : X := .t 237
abbrev t238 : X := .t 238
abbrev t239 : X := .t 239
abbrev t240 : X := .t 240
abbrev t241 : X := .t 241
abbrev t242 : X := .t 242
abbrev t243 : X := .t 243
abbrev t244 : X := .t 244
abbrev t245 : X := .t 245
abbrev t246 : X := .t 246
abbrev t247 : X := .t 247
abbrev t248 : X := .t 248
abbrev t249 : X := .t 249
abbrev t250 : X := .t 250
abbrev t251 : X := .t 251
abbrev t252 : X := .t 252
abbrev t253 : X := .t 253
abbrev t254 : X := .t 254
abbrev t255 : X := .t 255
abbrev t256 : X := .t 256
abbrev t257 : X := .t 257
abbrev t258 : X := .t 258
abbrev t259 : X := .t 259
abbrev t260 : X := .t 260
abbrev t261 : X := .t 261

abbrev l29_RemitFair : Nat := 7
abbrev l29_RemitExact : Nat := 8
abbrev l29_works : Nat := 18
abbrev l29_may : Nat := 19
abbrev remit_Due : Nat := 20
abbrev l29_ownShares : Nat := 21
abbrev l29_fair : Nat := 22
abbrev l29_ownMoves : Nat := 23
abbrev remit_Check : Nat := 24
abbrev r29_Check : Nat := 25
abbrev remit_Collected : Nat := 26
abbrev r29_Collected : Nat := 27
abbrev r29_Due : Nat := 28
abbrev l29_same : Nat := 29
abbrev l29_spoil : Nat := 30
abbrev remit_Period : Nat := 31
abbrev r29_Period : Nat := 32
abbrev l29_sameMoves : Nat := 33
abbrev l29_sameShares : Nat := 34
abbrev l29_anew : Nat := 35
abbrev r1_Sum : Nat := 38
abbrev remit_isRate : Nat := 41
abbrev remit_due : Nat := 42
abbrev l29_near : Nat := 43
abbrev remit_collected : Nat := 44
abbrev r29_lowered : Nat := 45
abbrev r29_isRate : Nat := 46
abbrev r1_Bps : Nat := 47
abbrev r1_Split : Nat := 48
abbrev remit_columns : Nat := 49
abbrev r29_isDay : Nat := 50
abbrev r1_high : Nat := 52
abbrev r1_lowOf : Nat := 53
abbrev r1_joined : Nat := 54
abbrev money_Bps : Nat := 55
abbrev money_Split : Nat := 56
abbrev money_MulDivFloor : Nat := 57
abbrev arrears_money_Sum_int64_ : Nat := 58
abbrev r1_MulDiv : Nat := 59
abbrev r1_whole : Nat := 60
abbrev r1_MulDivFloor : Nat := 61
abbrev remit_columns_c1 : Nat := 62
abbrev remit_columns_c2 : Nat := 63
abbrev money_MulDiv : Nat := 64
abbrev money_weighed : Nat := 65
abbrev math_bits_Mul64 : Nat := 66
abbrev money_magnitude : Nat := 67
abbrev math_bits_Div64 : Nat := 68
abbrev money_withSign : Nat := 69
abbrev r1_size : Nat := 70
abbrev r1_over : Nat := 71
abbrev r1_times : Nat := 72
abbrev r1_digits : Nat := 73
abbrev r1_more : Nat := 74
abbrev r1_signed : Nat := 75
abbrev math_bits_LeadingZeros64 : Nat := 76
abbrev math_bits_Len64 : Nat := 77
theorem fn_l29_RemitFair : Try.prog.funcs[l29_RemitFair]? = some Try.f7 := Try.func7
theorem nt_l29_RemitFair : Try.f7.ntmps = 59 := Try.ntmps7
def ic_l29_RemitFair : IC := (.seq (io [em 8 cf])
  (.seq (.seq (io [ec 12 18 [], .o 13 (.un .not t12)])
  (.cond t13
  (.seq (io [em 8 cf])
  .ret)
  .skip))
  (.seq (.seq (io [em 14 t0, em 15 t1, ec 16 19 [t14, t15], .o 17 (.un .not t16), em 18 t17, .og 19 18 false (.mv t2), .og 20 18 false (.bin .lss t19 (ci 0)), .o 21 (.pick t18 ct t20), em 22 t21, .og 23 22 false (.mv t3), .og 24 22 false (.bin .lss t23 (ci 0)), .o 25 (.pick t22 ct t24)])
  (.cond t25
  (.seq (io [em 8 ct])
  .ret)
  .skip))
  (.seq (io [em 27 t0, ec 28 21 [t27], em 29 t0, .o 30 (.len t29), .o 31 (.slc 2 t28 .no t30), em 32 t1, em 33 t2, em 34 t3, ec 35 20 [t31, t32, t33, t34], em 26 t35, ex 36 0 t26, ex 37 1 t26, ex 38 2 t26, em 9 t36, em 10 t37, em 11 t38])
  (.seq (io [em 39 t11, eb 40 .eql t39 (ci 0), em 41 t40, .og 42 41 true (.mv t10), .og 43 41 true (.bin .geq t42 (ci 0)), .o 44 (.pick t41 t43 cf), em 45 t44, .og 46 45 true (.mv t10), .og 47 45 true (.mv t3), .og 48 45 true (.bin .leq t46 t47), .o 49 (.pick t45 t48 cf), em 50 t49, .og 51 50 true (.mv t0), .og 52 50 true (.mv t9), .og 53 50 true (.mv t2), .og 54 50 true (.mv t3), .og 55 50 true (.mv t10), .og 56 50 true (.bin .sub t54 t55), .og 57 50 true (.call 22 [t51, t52, t53, t56]), .o 58 (.pick t50 t57 cf), em 8 t58])
  .ret)))))
theorem hc_l29_RemitFair : compF Try.prog 59 Try.f7 = some (ic_l29_RemitFair, [.t 8]) := by kernel_rfl

theorem fn_l29_RemitExact : Try.prog.funcs[l29_RemitExact]? = some Try.f8 := Try.func8
theorem nt_l29_RemitExact : Try.f8.ntmps = 262 := Try.ntmps8
def ic_l29_RemitExact : IC := (.seq (io [em 14 cf])
  (.seq (.seq (io [em 36 t0, .o 37 (.len t36), eb 38 .gtr t37 (ci 400), em 39 t38, .og 40 39 false (.mv t1), .og 41 39 false (.len t40), .og 42 39 false (.bin .gtr t41 (ci 64)), .o 43 (.pick t39 ct t42)])
  (.cond t43
  (.seq (io [em 14 ct])
  .ret)
  .skip))
  (.seq (io [em 44 t0, ec 45 23 [t44], em 15 t45])
  (.seq (io [em 46 t1, ec 47 21 [t46], em 16 t47])
  (.seq (io [em 49 t16, em 50 t1, .o 51 (.len t50), .o 52 (.slc 2 t49 .no t51), ec 53 24 [t52], em 48 t53, ex 54 0 t48, ex 55 1 t48, em 17 t54, em 18 t55])
  (.seq (io [em 57 t1, ec 58 25 [t57], em 56 t58, ex 59 0 t56, ex 60 1 t56, em 19 t59, em 20 t60])
  (.seq (.seq (io [em 61 t17, em 62 t19, eb 63 .neq t61 t62, em 64 t63, .og 65 64 false (.mv t18), .og 66 64 false (.mv t20), .og 67 64 false (.bin .neq t65 t66), .o 68 (.pick t64 ct t67)])
  (.cond t68
  (.seq (io [em 14 cf])
  .ret)
  .skip))
  (.seq (io [em 70 t15, em 71 t0, .o 72 (.len t71), .o 73 (.slc 14 t70 .no t72), em 74 t6, ec 75 26 [t73, t74], em 69 t75, ex 76 0 t69, ex 77 1 t69, ex 78 2 t69, em 21 t76, em 22 t77, em 23 t78])
  (.seq (io [em 80 t0, em 81 t6, ec 82 27 [t80, t81], em 79 t82, ex 83 0 t79, ex 84 1 t79, ex 85 2 t79, em 24 t83, em 25 t84, em 26 t85])
  (.seq (.seq (io [em 86 t21, em 87 t24, eb 88 .neq t86 t87, em 89 t88, .og 90 89 false (.mv t22), .og 91 89 false (.mv t25), .og 92 89 false (.bin .neq t90 t91), .o 93 (.pick t89 ct t92), em 94 t93, .og 95 94 false (.mv t23), .og 96 94 false (.mv t26), .og 97 94 false (.eqv true t95 t96), .o 98 (.pick t94 ct t97)])
  (.cond t98
  (.seq (io [em 14 cf])
  .ret)
  .skip))
  (.seq (io [em 100 t16, em 101 t1, .o 102 (.len t101), .o 103 (.slc 2 t100 .no t102), em 104 t2, em 105 t3, em 106 t4, ec 107 20 [t103, t104, t105, t106], em 99 t107, ex 108 0 t99, ex 109 1 t99, ex 110 2 t99, em 27 t108, em 28 t109, em 29 t110])
  (.seq (io [em 112 t16, em 113 t1, .o 114 (.len t113), .o 115 (.slc 2 t112 .no t114), em 116 t2, em 117 t3, em 118 t4, ec 119 20 [t115, t116, t117, t118], em 111 t119, ex 120 0 t111, ex 121 1 t111, ex 122 2 t111, em 30 t120, em 31 t121, em 32 t122])
  (.seq (io [em 124 t1, em 125 t2, em 126 t3, em 127 t4, ec 128 28 [t124, t125, t126, t127], em 123 t128, ex 129 0 t123, ex 130 1 t123, ex 131 2 t123, em 33 t129, em 34 t130, em 35 t131])
  (.seq (.seq (io [em 132 t28, em 133 t34, eb 134 .neq t132 t133, em 135 t134, .og 136 135 false (.mv t31), .og 137 135 false (.mv t34), .og 138 135 false (.bin .neq t136 t137), .o 139 (.pick t135 ct t138), em 140 t139, .og 141 140 false (.mv t29), .og 142 140 false (.mv t35), .og 143 140 false (.bin .neq t141 t142), .o 144 (.pick t140 ct t143), em 145 t144, .og 146 145 false (.mv t27), .og 147 145 false (.mv t33), .og 148 145 false (.call 29 [t146, t147]), .og 149 145 false (.un .not t148), .o 150 (.pick t145 ct t149), em 151 t150, .og 152 151 false (.mv t27), .og 153 151 false (.call 30 [t152]), .og 154 151 false (.mv t33), .og 155 151 false (.len t154), .og 156 151 false (.bin .add t155 (ci 64)), .og 157 151 false (.bin .neq t153 t156), .o 158 (.pick t151 ct t157), em 159 t158, .og 160 159 false (.mv t30), .og 161 159 false (.mv t33), .og 162 159 false (.call 29 [t160, t161]), .og 163 159 false (.un .not t162), .o 164 (.pick t159 ct t163)])
  (.cond t164
  (.seq (io [em 14 cf])
  .ret)
  .skip))
  (.seq (.dops [em 166 t15, em 167 t0, .o 168 (.len t167), .o 169 (.slc 14 t166 .no t168), em 170 t16, em 171 t1, .o 172 (.len t171), .o 173 (.slc 2 t170 .no t172), em 174 t2, em 175 t5, em 176 t6, ec 177 31 [t169, t173, t174, t175, t176], em 165 t177, ex 178 0 t165, ex 179 1 t165, ex 180 2 t165, em 27 t178, em 28 t179, em 29 t180])
  (.seq (.dops [em 182 t15, em 183 t0, .o 184 (.len t183), .o 185 (.slc 14 t182 .no t184), em 186 t16, em 187 t1, .o 188 (.len t187), .o 189 (.slc 2 t186 .no t188), em 190 t2, em 191 t5, em 192 t6, ec 193 31 [t185, t189, t190, t191, t192], em 181 t193, ex 194 0 t181, ex 195 1 t181, ex 196 2 t181, em 30 t194, em 31 t195])
  (.seq (io [em 198 t0, em 199 t1, em 200 t2, em 201 t5, em 202 t6, ec 203 32 [t198, t199, t200, t201, t202], em 197 t203, ex 204 0 t197, ex 205 1 t197, ex 206 2 t197, em 33 t204, em 34 t205, em 35 t206])
  (.seq (.seq (io [em 207 t28, em 208 t34, eb 209 .neq t207 t208, em 210 t209, .og 211 210 false (.mv t31), .og 212 210 false (.mv t34), .og 213 210 false (.bin .neq t211 t212), .o 214 (.pick t210 ct t213), em 215 t214, .og 216 215 false (.mv t29), .og 217 215 false (.mv t35), .og 218 215 false (.bin .neq t216 t217), .o 219 (.pick t215 ct t218), em 220 t219, .og 221 220 false (.mv t27), .og 222 220 false (.mv t33), .og 223 220 false (.call 29 [t221, t222]), .og 224 220 false (.un .not t223), .o 225 (.pick t220 ct t224), em 226 t225, .og 227 226 false (.mv t27), .og 228 226 false (.call 30 [t227]), .og 229 226 false (.mv t33), .og 230 226 false (.len t229), .og 231 226 false (.bin .add t230 (ci 64)), .og 232 226 false (.bin .neq t228 t231), .o 233 (.pick t226 ct t232), em 234 t233, .og 235 234 false (.mv t30), .og 236 234 false (.mv t33), .og 237 234 false (.call 29 [t235, t236]), .og 238 234 false (.un .not t237), .o 239 (.pick t234 ct t238)])
  (.cond t239
  (.seq (io [em 14 cf])
  .ret)
  .skip))
  (.seq (.dops [em 240 t15, em 241 t0, ec 242 33 [t240, t241], em 243 t242, .og 244 243 true (.mv t16), .og 245 243 true (.mv t1), .og 246 243 true (.call 34 [t244, t245]), .o 247 (.pick t243 t246 cf), em 248 t247, .og 249 248 true (.mv t15), .og 250 248 true (.mv t0), .og 251 248 true (.len t250), .og 252 248 true (.slc 14 t249 .no t251), .og 253 248 true (.mv t16), .og 254 248 true (.mv t1), .og 255 248 true (.len t254), .og 256 248 true (.slc 2 t253 .no t255), .og 257 248 true (.mv t2), .og 258 248 true (.mv t5), .og 259 248 true (.mv t6), .og 260 248 true (.call 35 [t252, t256, t257, t258, t259]), .o 261 (.pick t248 t260 cf), em 14 t261])
  .ret)))))))))))))))))))
theorem hc_l29_RemitExact : compF Try.prog 262 Try.f8 = some (ic_l29_RemitExact, [.t 14]) := by kernel_rfl

theorem fn_l29_works : Try.prog.funcs[l29_works]? = some Try.f18 := Try.func18
theorem nt_l29_works : Try.f18.ntmps = 35 := Try.ntmps18
def ic_l29_works : IC := (.seq (io [em 0 cf])
  (.seq (io [.o 5 (.build (.st (zc (zc .nil))) [(0, 0, 1, (ci 3)), (1, 1, 1, (ci 1))]), .o 6 (.build (.st (zc (zc .nil))) [(0, 0, 1, (ci 4)), (1, 1, 1, (ci 1))]), .o 7 (.bsl 2 79 (.st (zc (zc .nil))) [(0, 0, 2, t5), (1, 2, 2, t6)]), ec 8 20 [t7, (ci 2500), (ci 1), (ci 10)], em 4 t8, ex 9 0 t4, ex 10 1 t4, ex 11 2 t4, em 1 t9, em 2 t10, em 3 t11])
  (.seq (.seq (io [em 12 t3, eb 13 .neq t12 (ci 0), em 14 t13, .og 15 14 false (.mv t2), .og 16 14 false (.bin .neq t15 (ci 2)), .o 17 (.pick t14 ct t16), em 18 t17, .og 19 18 false (.mv t1), .og 20 18 false (.len t19), .og 21 18 false (.bin .neq t20 (ci 2)), .o 22 (.pick t18 ct t21)])
  (.cond t22
  (.seq (io [em 0 cf])
  .ret)
  .skip))
  (.seq (io [em 23 t1, es 24 3 t23 (ci 0), el 25 true 3 t24, .o 26 (.build (.st (zc (zc (zc .nil)))) [(0, 0, 1, (ci 3)), (1, 1, 1, (ci 1)), (2, 2, 1, (ci 4))]), .o 27 (.eqs false (.st (.cons .int (.cons .int (.cons .int .nil)))) t25 t26), em 28 t27, .og 29 28 true (.mv t1), .og 30 28 true (.ixs 3 t29 (ci 1)), .og 31 28 true (.ld true 3 t30), .og 32 28 true (.build (.st (zc (zc (zc .nil)))) [(0, 0, 1, (ci 4)), (1, 1, 1, (ci 0)), (2, 2, 1, (ci 4))]), .og 33 28 true (.eqs false (.st (.cons .int (.cons .int (.cons .int .nil)))) t31 t32), .o 34 (.pick t28 t33 cf), em 0 t34])
  .ret))))
theorem hc_l29_works : compF Try.prog 35 Try.f18 = some (ic_l29_works, [.t 0]) := by kernel_rfl

theorem fn_l29_may : Try.prog.funcs[l29_may]? = some Try.f19 := Try.func19
theorem nt_l29_may : Try.f19.ntmps = 22 := Try.ntmps19
def ic_l29_may : IC := (.seq (io [em 4 cf])
  (.seq (io [em 8 t0, ec 9 25 [t8], em 7 t9, ex 10 0 t7, ex 11 1 t7, em 5 t10, em 6 t11])
  (.seq (io [em 12 t5, eb 13 .eql t12 (ci 0), em 14 t13, .og 15 14 true (.mv t1), .og 16 14 true (.bin .geq t15 (ci 0)), .o 17 (.pick t14 t16 cf), em 18 t17, .og 19 18 true (.mv t1), .og 20 18 true (.bin .leq t19 (ci 10000)), .o 21 (.pick t18 t20 cf), em 4 t21])
  .ret)))
theorem hc_l29_may : compF Try.prog 22 Try.f19 = some (ic_l29_may, [.t 4]) := by kernel_rfl

theorem fn_remit_Due : Try.prog.funcs[remit_Due]? = some Try.f20 := Try.func20
theorem nt_remit_Due : Try.f20.ntmps = 45 := Try.ntmps20
def ic_remit_Due : IC := (.seq (io [em 8 (.c (.slice none 0 0)), em 9 (ci 0), em 10 (ci 0)])
  (.seq (.seq (io [em 16 t0, ec 17 24 [t16], em 15 t17, ex 18 0 t15, ex 19 1 t15, em 11 t18, em 12 t19])
  (.seq (io [em 20 t11, eb 21 .neq t20 (ci 0)])
  (.cond t21
  (.seq (io [em 22 t11, em 8 (.c (.slice none 0 0)), em 9 (ci 0), em 10 t22])
  .ret)
  .skip)))
  (.seq (.seq (io [em 23 t1, ec 24 41 [t23], .o 25 (.un .not t24), em 26 t25, .og 27 26 false (.mv t2), .og 28 26 false (.bin .lss t27 (ci 0)), .o 29 (.pick t26 ct t28), em 30 t29, .og 31 30 false (.mv t3), .og 32 30 false (.bin .lss t31 (ci 0)), .o 33 (.pick t30 ct t32)])
  (.cond t33
  (.seq (io [em 8 (.c (.slice none 0 0)), em 9 (ci 0), em 10 (ci 2)])
  .ret)
  .skip))
  (.seq (io [em 35 t0, em 36 t1, em 37 t2, em 38 t3, .o 39 (.build (.arr 2 1 fun _ => zi) [(0, 0, 1, t37), (1, 1, 1, t38)]), ec 40 42 [t35, t36, t39], em 34 t40, ex 41 0 t34, ex 42 1 t34, em 13 t41, em 14 t42])
  (.seq (io [em 43 t13, em 44 t14, em 8 t43, em 9 t44, em 10 (ci 0)])
  .ret)))))
theorem hc_remit_Due : compF Try.prog 45 Try.f20 = some (ic_remit_Due, [.t 8, .t 9, .t 10]) := by kernel_rfl

theorem fn_l29_ownShares : Try.prog.funcs[l29_ownShares]? = some Try.f21 := Try.func21
theorem nt_l29_ownShares : Try.f21.ntmps = 11 := Try.ntmps21
def ic_l29_ownShares : IC := (.seq (io [em 2 (.c (.slice none 0 0))])
  (.seq (io [em 3 (.c (.slice none 0 0))])
  (.seq (io [em 4 t3, em 5 t0, .o 6 (.app 2 16 79 t4 t5), em 3 t6])
  (.seq (io [em 7 t3, .o 8 (.build (.st (zc (zc .nil))) [(0, 0, 1, (ci (-7)))]), .o 9 (.bsl 2 79 (.st (zc (zc .nil))) [(0, 0, 2, t8)]), .o 10 (.app 2 16 79 t7 t9), em 2 t10])
  .ret))))
theorem hc_l29_ownShares : compF Try.prog 11 Try.f21 = some (ic_l29_ownShares, [.t 2]) := by kernel_rfl

theorem fn_l29_fair : Try.prog.funcs[l29_fair]? = some Try.f22 := Try.func22
theorem nt_l29_fair : Try.f22.ntmps = 201 := Try.ntmps22
def ic_l29_fair : IC := (.seq (io [em 8 cf])
  (.seq (io [em 9 (ci 0)])
  (.seq (.seq (io [em 10 (ci 0)])
  (.block 0 (.loop (.seq (.seq (io [em 19 t10, em 20 t0, .o 21 (.len t20), eb 22 .lss t19 t21])
  (.cond t22
  .skip
  (.exit 0)))
  (.seq (.block 1 (.ops [em 25 t9, em 26 t0, em 27 t10, es 28 2 t26 t27, ef 29 1 1 t28, el 30 false 1 t29, eb 31 .add t25 t30, em 9 t31]))
  (.ops [em 23 t10, eb 24 .add t23 (ci 1), em 10 t24]))))))
  (.seq (.seq (io [em 32 t1, .o 33 (.len t32), em 34 t0, .o 35 (.len t34), eb 36 .neq t33 t35])
  (.cond t36
  (.seq (io [em 8 cf])
  .ret)
  .skip))
  (.seq (io [em 37 t2, em 11 t37])
  (.seq (io [em 38 t3, em 12 t38])
  (.seq (.seq (io [em 13 (ci 0)])
  (.block 2 (.loop (.seq (.seq (io [em 39 t13, em 40 t1, .o 41 (.len t40), eb 42 .lss t39 t41])
  (.cond t42
  .skip
  (.exit 2)))
  (.seq (.block 3 (.seq (.seq (.dops [em 45 t1, em 46 t13, es 47 3 t45 t46, ef 48 0 0 t47, el 49 false 1 t48, em 50 t0, em 51 t13, es 52 2 t50 t51, ef 53 0 0 t52, el 54 false 1 t53, eb 55 .neq t49 t54, em 56 t55, .og 57 56 false (.mv t1), .og 58 56 false (.mv t13), .og 59 56 false (.ixs 3 t57 t58), .og 60 56 false (.fa 1 1 t59), .og 61 56 false (.ld false 1 t60), .og 62 56 false (.mv t2), .og 63 56 false (.mv t0), .og 64 56 false (.mv t13), .og 65 56 false (.ixs 2 t63 t64), .og 66 56 false (.fa 1 1 t65), .og 67 56 false (.ld false 1 t66), .og 68 56 false (.mv t9), .og 69 56 false (.call 43 [t61, t62, t67, t68]), .og 70 56 false (.un .not t69), .o 71 (.pick t56 ct t70), em 72 t71, .og 73 72 false (.mv t1), .og 74 72 false (.mv t13), .og 75 72 false (.ixs 3 t73 t74), .og 76 72 false (.fa 2 2 t75), .og 77 72 false (.ld false 1 t76), .og 78 72 false (.mv t3), .og 79 72 false (.mv t0), .og 80 72 false (.mv t13), .og 81 72 false (.ixs 2 t79 t80), .og 82 72 false (.fa 1 1 t81), .og 83 72 false (.ld false 1 t82), .og 84 72 false (.mv t9), .og 85 72 false (.call 43 [t77, t78, t83, t84]), .og 86 72 false (.un .not t85), .o 87 (.pick t72 ct t86)])
  (.cond t87
  (.seq (io [em 8 cf])
  .ret)
  .skip))
  (.seq (.seq (io [em 14 (ci 0)])
  (.block 4 (.loop (.seq (.seq (io [em 88 t14, em 89 t13, eb 90 .lss t88 t89])
  (.cond t90
  .skip
  (.exit 4)))
  (.seq (.block 5 (.seq (.dops [em 93 t0, em 94 t13, es 95 2 t93 t94, ef 96 1 1 t95, el 97 false 1 t96, em 98 t0, em 99 t14, es 100 2 t98 t99, ef 101 1 1 t100, el 102 false 1 t101, eb 103 .gtr t97 t102, em 15 t103])
  (.seq (.dops [em 104 t0, em 105 t13, es 106 2 t104 t105, ef 107 1 1 t106, el 108 false 1 t107, em 109 t0, em 110 t14, es 111 2 t109 t110, ef 112 1 1 t111, el 113 false 1 t112, eb 114 .lss t108 t113, em 16 t114])
  (.seq (.dops [em 115 t1, em 116 t13, es 117 3 t115 t116, ef 118 1 1 t117, el 119 false 1 t118, em 120 t1, em 121 t14, es 122 3 t120 t121, ef 123 1 1 t122, el 124 false 1 t123, eb 125 .sub t119 t124, em 17 t125])
  (.seq (.dops [em 126 t1, em 127 t13, es 128 3 t126 t127, ef 129 2 2 t128, el 130 false 1 t129, em 131 t1, em 132 t14, es 133 3 t131 t132, ef 134 2 2 t133, el 135 false 1 t134, eb 136 .sub t130 t135, em 18 t136])
  (.seq (io [em 137 t15, em 138 t137, .og 139 138 true (.mv t17), .og 140 138 true (.bin .lss t139 (ci 0)), .og 141 138 true (.mv t140), .og 142 141 false (.mv t18), .og 143 141 false (.bin .lss t142 (ci 0)), .og 144 138 true (.pick t141 ct t143), .o 145 (.pick t138 t144 cf), em 146 t145, .og 147 146 false (.mv t16), .og 148 146 false (.mv t147), .og 149 148 true (.mv t17), .og 150 148 true (.bin .gtr t149 (ci 0)), .og 151 148 true (.mv t150), .og 152 151 false (.mv t18), .og 153 151 false (.bin .gtr t152 (ci 0)), .og 154 148 true (.pick t151 ct t153), .og 155 146 false (.pick t148 t154 cf), .o 156 (.pick t146 ct t155), em 157 t156, .og 158 157 false (.mv t15), .og 159 157 false (.un .not t158), .og 160 157 false (.mv t159), .og 161 160 true (.mv t16), .og 162 160 true (.un .not t161), .og 163 157 false (.pick t160 t162 cf), .og 164 157 false (.mv t163), .og 165 164 true (.mv t17), .og 166 164 true (.bin .gtr t165 (ci 0)), .og 167 164 true (.mv t166), .og 168 167 false (.mv t17), .og 169 167 false (.bin .lss t168 (ci (-1))), .og 170 164 true (.pick t167 ct t169), .og 171 164 true (.mv t170), .og 172 171 false (.mv t18), .og 173 171 false (.bin .gtr t172 (ci 0)), .og 174 164 true (.pick t171 ct t173), .og 175 164 true (.mv t174), .og 176 175 false (.mv t18), .og 177 175 false (.bin .lss t176 (ci (-1))), .og 178 164 true (.pick t175 ct t177), .og 179 157 false (.pick t164 t178 cf), .o 180 (.pick t157 ct t179)])
  (.cond t180
  (.seq (io [em 8 cf])
  .ret)
  .skip)))))))
  (.ops [em 91 t14, eb 92 .add t91 (ci 1), em 14 t92]))))))
  (.seq (io [em 181 t11, em 182 t1, em 183 t13, es 184 3 t182 t183, ef 185 1 1 t184, el 186 false 1 t185, eb 187 .sub t181 t186, em 11 t187])
  (.ops [em 188 t12, em 189 t1, em 190 t13, es 191 3 t189 t190, ef 192 2 2 t191, el 193 false 1 t192, eb 194 .sub t188 t193, em 12 t194])))))
  (.ops [em 43 t13, eb 44 .add t43 (ci 1), em 13 t44]))))))
  (.seq (io [em 195 t11, eb 196 .eql t195 (ci 0), em 197 t196, .og 198 197 true (.mv t12), .og 199 197 true (.bin .eql t198 (ci 0)), .o 200 (.pick t197 t199 cf), em 8 t200])
  .ret))))))))
theorem hc_l29_fair : compF Try.prog 201 Try.f22 = some (ic_l29_fair, [.t 8]) := by kernel_rfl

theorem fn_l29_ownMoves : Try.prog.funcs[l29_ownMoves]? = some Try.f23 := Try.func23
theorem nt_l29_ownMoves : Try.f23.ntmps = 11 := Try.ntmps23
def ic_l29_ownMoves : IC := (.seq (io [em 2 (.c (.slice none 0 0))])
  (.seq (io [em 3 (.c (.slice none 0 0))])
  (.seq (io [em 4 t3, em 5 t0, .o 6 (.app 14 112 43 t4 t5), em 3 t6])
  (.seq (io [em 7 t3, .o 8 (.build (.st (zc (zc (.cons (.st (.cons (.arr 12 1 fun _ => zi) .nil)) .nil)))) [(0, 0, 1, (ci (-7))), (1, 1, 1, (ci 2))]), .o 9 (.bsl 14 43 (.st (zc (zc (.cons (.st (.cons (.arr 12 1 fun _ => zi) .nil)) .nil)))) [(0, 0, 14, t8)]), .o 10 (.app 14 112 43 t7 t9), em 2 t10])
  .ret))))
theorem hc_l29_ownMoves : compF Try.prog 11 Try.f23 = some (ic_l29_ownMoves, [.t 2]) := by kernel_rfl

theorem fn_remit_Check : Try.prog.funcs[remit_Check]? = some Try.f24 := Try.func24
theorem nt_remit_Check : Try.f24.ntmps = 53 := Try.ntmps24
def ic_remit_Check : IC := (.seq (io [em 2 (ci 0), em 3 (ci 0)])
  (.seq (.block 0 (.seq (io [em 9 t0, .o 10 (.len t9), eb 11 .eql t10 (ci 0), em 8 t11])
  (.cond t8
  (.seq (io [em 2 (ci 2), em 3 (ci 0)])
  .ret)
  (.seq (io [em 13 t0, .o 14 (.len t13), eb 15 .gtr t14 (ci 32), em 12 t15])
  (.cond t12
  (.seq (io [em 2 (ci 1), em 3 (ci 0)])
  .ret)
  .skip)))))
  (.seq (io [em 4 (ci 0), em 5 (ci 1000000000000)])
  (.seq (.seq (io [em 16 t0, .o 17 (.len t16), em 18 (ci 0)])
  (.block 1 (.loop (.seq (io [eb 19 .lss t18 t17])
  (.seq (.cond t19
  .skip
  (.exit 1))
  (.seq (.block 2 (.seq (io [em 20 t18, em 6 t20])
  (.seq (io [em 21 t0, em 22 t6, es 23 2 t21 t22, el 24 true 2 t23, .o 7 (.alloc (.st (zc (zc .nil)))), .n (.sto 2 t7 t24)])
  (.seq (.seq (io [ef 25 0 0 t7, el 26 false 1 t25, em 27 t4, eb 28 .leq t26 t27, em 29 t28, .og 30 29 false (.fa 0 0 t7), .og 31 29 false (.ld false 1 t30), .og 32 29 false (.bin .gtr t31 (ci 999999)), .o 33 (.pick t29 ct t32), em 34 t33, .og 35 34 false (.fa 1 1 t7), .og 36 34 false (.ld false 1 t35), .og 37 34 false (.bin .lss t36 (ci 1)), .o 38 (.pick t34 ct t37), em 39 t38, .og 40 39 false (.fa 1 1 t7), .og 41 39 false (.ld false 1 t40), .og 42 39 false (.mv t5), .og 43 39 false (.bin .gtr t41 t42), .o 44 (.pick t39 ct t43)])
  (.cond t44
  (.seq (io [em 45 t6, em 2 (ci 2), em 3 t45])
  .ret)
  .skip))
  (.dops [ef 46 0 0 t7, el 47 false 1 t46, em 48 t5, ef 49 1 1 t7, el 50 false 1 t49, eb 51 .sub t48 t50, em 4 t47, em 5 t51])))))
  (.ops [eb 52 .add t18 (ci 1), em 18 t52])))))))
  (.seq (io [em 2 (ci 0), em 3 (ci 0)])
  .ret)))))
theorem hc_remit_Check : compF Try.prog 53 Try.f24 = some (ic_remit_Check, [.t 2, .t 3]) := by kernel_rfl

theorem fn_r29_Check : Try.prog.funcs[r29_Check]? = some Try.f25 := Try.func25
theorem nt_r29_Check : Try.f25.ntmps = 51 := Try.ntmps25
def ic_r29_Check : IC := (.seq (io [em 2 (ci 0), em 3 (ci 0)])
  (.seq (.seq (io [em 8 t0, .o 9 (.len t8), eb 10 .eql t9 (ci 0)])
  (.cond t10
  (.seq (io [em 2 (ci 2), em 3 (ci 0)])
  .ret)
  .skip))
  (.seq (.seq (io [em 11 t0, .o 12 (.len t11), eb 13 .gtr t12 (ci 32)])
  (.cond t13
  (.seq (io [em 2 (ci 1), em 3 (ci 0)])
  .ret)
  .skip))
  (.seq (io [em 4 (ci 0)])
  (.seq (io [em 5 (ci 1000000000000)])
  (.seq (.seq (io [em 6 (ci 0)])
  (.block 0 (.loop (.seq (.seq (io [em 14 t6, em 15 t0, .o 16 (.len t15), eb 17 .lss t14 t16])
  (.cond t17
  .skip
  (.exit 0)))
  (.seq (.block 1 (.seq (io [em 20 t0, em 21 t6, es 22 2 t20 t21, el 23 true 2 t22, .o 7 (.alloc (.st (zc (zc .nil)))), .n (.sto 2 t7 t23)])
  (.seq (.seq (io [ef 24 0 0 t7, el 25 false 1 t24, em 26 t4, eb 27 .leq t25 t26, em 28 t27, .og 29 28 false (.fa 0 0 t7), .og 30 28 false (.ld false 1 t29), .og 31 28 false (.bin .gtr t30 (ci 999999)), .o 32 (.pick t28 ct t31), em 33 t32, .og 34 33 false (.fa 1 1 t7), .og 35 33 false (.ld false 1 t34), .og 36 33 false (.bin .lss t35 (ci 1)), .o 37 (.pick t33 ct t36), em 38 t37, .og 39 38 false (.fa 1 1 t7), .og 40 38 false (.ld false 1 t39), .og 41 38 false (.mv t5), .og 42 38 false (.bin .gtr t40 t41), .o 43 (.pick t38 ct t42)])
  (.cond t43
  (.seq (io [em 44 t6, em 2 (ci 2), em 3 t44])
  .ret)
  .skip))
  (.seq (io [ef 45 0 0 t7, el 46 false 1 t45, em 4 t46])
  (.ops [em 47 t5, ef 48 1 1 t7, el 49 false 1 t48, eb 50 .sub t47 t49, em 5 t50])))))
  (.ops [em 18 t6, eb 19 .add t18 (ci 1), em 6 t19]))))))
  (.seq (io [em 2 (ci 0), em 3 (ci 0)])
  .ret)))))))
theorem hc_r29_Check : compF Try.prog 51 Try.f25 = some (ic_r29_Check, [.t 2, .t 3]) := by kernel_rfl

theorem fn_remit_Collected : Try.prog.funcs[remit_Collected]? = some Try.f26 := Try.func26
theorem nt_remit_Collected : Try.f26.ntmps = 21 := Try.ntmps26
def ic_remit_Collected : IC := (.seq (io [em 4 (ci 0), em 5 (ci 0), em 6 cf])
  (.seq (io [em 10 t0, em 11 t1, ec 12 44 [t10, t11], em 9 t12, ex 13 0 t9, ex 14 1 t9, .o 7 (.alloc (.arr 2 1 fun _ => zi)), .n (.sto 2 t7 t13), em 8 t14])
  (.seq (.seq (io [em 15 t8, .o 16 (.un .not t15)])
  (.cond t16
  (.seq (io [em 4 (ci 0), em 5 (ci 0), em 6 cf])
  .ret)
  .skip))
  (.seq (.dops [.o 17 (.ixa 2 1 t7 (ci 0)), el 18 false 1 t17, .o 19 (.ixa 2 1 t7 (ci 1)), el 20 false 1 t19, em 4 t18, em 5 t20, em 6 ct])
  .ret))))
theorem hc_remit_Collected : compF Try.prog 21 Try.f26 = some (ic_remit_Collected, [.t 4, .t 5, .t 6]) := by kernel_rfl

theorem fn_r29_Collected : Try.prog.funcs[r29_Collected]? = some Try.f27 := Try.func27
theorem nt_r29_Collected : Try.f27.ntmps = 31 := Try.ntmps27
def ic_r29_Collected : IC := (.seq (io [em 4 (ci 0), em 5 (ci 0), em 6 cf])
  (.seq (io [em 12 t0, em 13 t1, ec 14 45 [t12, t13, (ci 1)], em 11 t14, ex 15 0 t11, ex 16 1 t11, em 7 t15, em 8 t16])
  (.seq (io [em 18 t0, em 19 t1, ec 20 45 [t18, t19, (ci 2)], em 17 t20, ex 21 0 t17, ex 22 1 t17, em 9 t21, em 10 t22])
  (.seq (.seq (io [em 23 t8, .o 24 (.un .not t23), em 25 t24, .og 26 25 false (.mv t10), .og 27 25 false (.un .not t26), .o 28 (.pick t25 ct t27)])
  (.cond t28
  (.seq (io [em 4 (ci 0), em 5 (ci 0), em 6 cf])
  .ret)
  .skip))
  (.seq (io [em 29 t7, em 30 t9, em 4 t29, em 5 t30, em 6 ct])
  .ret)))))
theorem hc_r29_Collected : compF Try.prog 31 Try.f27 = some (ic_r29_Collected, [.t 4, .t 5, .t 6]) := by kernel_rfl

theorem fn_r29_Due : Try.prog.funcs[r29_Due]? = some Try.f28 := Try.func28
theorem nt_r29_Due : Try.f28.ntmps = 101 := Try.ntmps28
def ic_r29_Due : IC := (.seq (io [em 8 (.c (.slice none 0 0)), em 9 (ci 0), em 10 (ci 0)])
  (.seq (io [em 24 t0, ec 25 25 [t24], em 23 t25, ex 26 0 t23, ex 27 1 t23, em 11 t26, em 12 t27])
  (.seq (.seq (io [em 28 t11, eb 29 .neq t28 (ci 0)])
  (.cond t29
  (.seq (io [em 30 t11, em 8 (.c (.slice none 0 0)), em 9 (ci 0), em 10 t30])
  .ret)
  .skip))
  (.seq (.seq (io [em 31 t1, ec 32 46 [t31], .o 33 (.un .not t32), em 34 t33, .og 35 34 false (.mv t2), .og 36 34 false (.bin .lss t35 (ci 0)), .o 37 (.pick t34 ct t36), em 38 t37, .og 39 38 false (.mv t3), .og 40 38 false (.bin .lss t39 (ci 0)), .o 41 (.pick t38 ct t40)])
  (.cond t41
  (.seq (io [em 8 (.c (.slice none 0 0)), em 9 (ci 0), em 10 (ci 2)])
  .ret)
  .skip))
  (.seq (io [em 13 (.c (.slice none 0 0))])
  (.seq (.seq (io [em 14 (ci 0)])
  (.block 0 (.loop (.seq (.seq (io [em 42 t14, em 43 t0, .o 44 (.len t43), eb 45 .lss t42 t44])
  (.cond t45
  .skip
  (.exit 0)))
  (.seq (.block 1 (.ops [em 48 t13, em 49 t0, em 50 t14, es 51 2 t49 t50, ef 52 1 1 t51, el 53 false 1 t52, .o 54 (.bsl 1 2 zi [(0, 0, 1, t53)]), .o 55 (.app 1 8 2 t48 t54), em 13 t55]))
  (.ops [em 46 t14, eb 47 .add t46 (ci 1), em 14 t47]))))))
  (.seq (io [em 57 t3, em 58 t1, ec 59 47 [t57, t58], em 56 t59, ex 60 0 t56, ex 61 1 t56, em 15 t60, em 16 t61])
  (.seq (io [em 63 t2, em 64 t13, ec 65 48 [t63, t64], em 62 t65, ex 66 0 t62, ex 67 1 t62, em 17 t66, em 18 t67])
  (.seq (io [em 69 t3, em 70 t15, eb 71 .sub t69 t70, em 72 t13, ec 73 48 [t71, t72], em 68 t73, ex 74 0 t68, ex 75 1 t68, em 19 t74, em 20 t75])
  (.seq (io [em 21 (.c (.slice none 0 0))])
  (.seq (.seq (io [em 22 (ci 0)])
  (.block 2 (.loop (.seq (.seq (io [em 76 t22, em 77 t0, .o 78 (.len t77), eb 79 .lss t76 t78])
  (.cond t79
  .skip
  (.exit 2)))
  (.seq (.block 3 (.dops [em 82 t21, em 83 t0, em 84 t22, es 85 2 t83 t84, ef 86 0 0 t85, el 87 false 1 t86, em 88 t17, em 89 t22, es 90 1 t88 t89, el 91 false 1 t90, em 92 t19, em 93 t22, es 94 1 t92 t93, el 95 false 1 t94, .o 96 (.build (.st (zc (zc (zc .nil)))) [(0, 0, 1, t87), (1, 1, 1, t91), (2, 2, 1, t95)]), .o 97 (.bsl 3 81 (.st (zc (zc (zc .nil)))) [(0, 0, 3, t96)]), .o 98 (.app 3 24 81 t82 t97), em 21 t98]))
  (.ops [em 80 t22, eb 81 .add t80 (ci 1), em 22 t81]))))))
  (.seq (io [em 99 t21, em 100 t15, em 8 t99, em 9 t100, em 10 (ci 0)])
  .ret))))))))))))
theorem hc_r29_Due : compF Try.prog 101 Try.f28 = some (ic_r29_Due, [.t 8, .t 9, .t 10]) := by kernel_rfl

theorem fn_l29_same : Try.prog.funcs[l29_same]? = some Try.f29 := Try.func29
theorem nt_l29_same : Try.f29.ntmps = 26 := Try.ntmps29
def ic_l29_same : IC := (.seq (io [em 4 cf])
  (.seq (.seq (io [em 6 t0, .o 7 (.len t6), em 8 t1, .o 9 (.len t8), eb 10 .neq t7 t9])
  (.cond t10
  (.seq (io [em 4 cf])
  .ret)
  .skip))
  (.seq (.seq (io [em 5 (ci 0)])
  (.block 0 (.loop (.seq (.seq (io [em 11 t5, em 12 t0, .o 13 (.len t12), eb 14 .lss t11 t13])
  (.cond t14
  .skip
  (.exit 0)))
  (.seq (.block 1 (.seq (.dops [em 17 t0, em 18 t5, es 19 3 t17 t18, el 20 true 3 t19, em 21 t1, em 22 t5, es 23 3 t21 t22, el 24 true 3 t23, .o 25 (.eqs true (.st (.cons .int (.cons .int (.cons .int .nil)))) t20 t24)])
  (.cond t25
  (.seq (io [em 4 cf])
  .ret)
  .skip)))
  (.ops [em 15 t5, eb 16 .add t15 (ci 1), em 5 t16]))))))
  (.seq (io [em 4 ct])
  .ret))))
theorem hc_l29_same : compF Try.prog 26 Try.f29 = some (ic_l29_same, [.t 4]) := by kernel_rfl

theorem fn_l29_spoil : Try.prog.funcs[l29_spoil]? = some Try.f30 := Try.func30
theorem nt_l29_spoil : Try.f30.ntmps = 19 := Try.ntmps30
def ic_l29_spoil : IC := (.seq (io [em 2 (ci 0)])
  (.seq (.seq (io [em 3 (ci 0)])
  (.block 0 (.loop (.seq (.seq (io [em 5 t3, em 6 t0, .o 7 (.len t6), eb 8 .lss t5 t7])
  (.cond t8
  .skip
  (.exit 0)))
  (.seq (.block 1 (.ops [em 11 t0, em 12 t3, .o 13 (.build (.st (zc (zc (zc .nil)))) [(0, 0, 1, (ci (-9))), (1, 1, 1, (ci (-9))), (2, 2, 1, (ci (-9)))]), es 14 3 t11 t12, .n (.sto 3 t14 t13)]))
  (.ops [em 9 t3, eb 10 .add t9 (ci 1), em 3 t10]))))))
  (.seq (io [em 15 t0, .o 16 (.dead), em 4 t16])
  (.seq (io [em 17 t4, .o 18 (.len t17), em 2 t18])
  .ret))))
theorem hc_l29_spoil : compF Try.prog 19 Try.f30 = some (ic_l29_spoil, [.t 2]) := by kernel_rfl

theorem fn_remit_Period : Try.prog.funcs[remit_Period]? = some Try.f31 := Try.func31
theorem nt_remit_Period : Try.f31.ntmps = 124 := Try.ntmps31
def ic_remit_Period : IC := (.seq (io [em 10 (.c (.slice none 0 0)), em 11 (ci 0), em 12 (ci 0)])
  (.seq (.seq (io [em 26 t3, eb 27 .lss t26 (ci 1), em 28 t27, .og 29 28 false (.mv t4), .og 30 28 false (.bin .gtr t29 (ci 3652059)), .o 31 (.pick t28 ct t30), em 32 t31, .og 33 32 false (.mv t3), .og 34 32 false (.mv t4), .og 35 32 false (.bin .gtr t33 t34), .o 36 (.pick t32 ct t35)])
  (.cond t36
  (.seq (io [em 10 (.c (.slice none 0 0)), em 11 (ci 0), em 12 (ci 2)])
  .ret)
  .skip))
  (.seq (.seq (io [em 38 t1, ec 39 24 [t38], em 37 t39, ex 40 0 t37, ex 41 1 t37, em 13 t40, em 14 t41])
  (.seq (io [em 42 t13, eb 43 .neq t42 (ci 0)])
  (.cond t43
  (.seq (io [em 44 t13, em 10 (.c (.slice none 0 0)), em 11 (ci 0), em 12 t44])
  .ret)
  .skip)))
  (.seq (.seq (io [em 45 t2, ec 46 41 [t45], .o 47 (.un .not t46)])
  (.cond t47
  (.seq (io [em 10 (.c (.slice none 0 0)), em 11 (ci 0), em 12 (ci 2)])
  .ret)
  .skip))
  (.seq (io [em 49 t0, em 50 t3, eb 51 .sub t50 (ci 1), ec 52 44 [t49, t51], em 48 t52, ex 53 0 t48, ex 54 1 t48, .o 15 (.alloc (.arr 2 1 fun _ => zi)), .n (.sto 2 t15 t53), em 16 t54])
  (.seq (io [em 56 t0, em 57 t4, ec 58 44 [t56, t57], em 55 t58, ex 59 0 t55, ex 60 1 t55, .o 17 (.alloc (.arr 2 1 fun _ => zi)), .n (.sto 2 t17 t59), em 18 t60])
  (.seq (.seq (io [em 61 t16, .o 62 (.un .not t61), em 63 t62, .og 64 63 false (.mv t18), .og 65 63 false (.un .not t64), .o 66 (.pick t63 ct t65)])
  (.cond t66
  (.seq (io [em 10 (.c (.slice none 0 0)), em 11 (ci 0), em 12 (ci 3)])
  .ret)
  .skip))
  (.seq (.seq (io [.o 67 (.ixa 2 1 t15 (ci 0)), el 68 false 1 t67, .o 69 (.ixa 2 1 t15 (ci 1)), el 70 false 1 t69, .o 71 (.ixa 2 1 t17 (ci 0)), el 72 false 1 t71, .o 73 (.ixa 2 1 t17 (ci 1)), el 74 false 1 t73, .o 75 (.dead), eb 76 .lss t75 (ci 0)])
  (.cond t76
  (.seq (io [em 10 (.c (.slice none 0 0)), em 11 (ci 0), em 12 (ci 2)])
  .ret)
  .skip))
  (.seq (io [em 78 t1, em 79 t2, el 80 true 2 t15, ec 81 42 [t78, t79, t80], em 77 t81, ex 82 0 t77, ex 83 1 t77, em 19 t82, em 20 t83])
  (.seq (io [em 85 t1, em 86 t2, el 87 true 2 t17, ec 88 42 [t85, t86, t87], em 84 t88, ex 89 0 t84, ex 90 1 t84, em 21 t89, em 22 t90])
  (.seq (.seq (io [em 91 t21, .o 92 (.len t91), em 93 (ci 0)])
  (.block 0 (.loop (.seq (io [eb 94 .lss t93 t92])
  (.seq (.cond t94
  .skip
  (.exit 0))
  (.seq (.block 1 (.seq (io [em 95 t93, em 23 t95])
  (.seq (io [ec 96 49 [], em 97 (ci 0)])
  (.block 2 (.loop (.seq (io [eb 98 .lss t97 (ci 2)])
  (.seq (.cond t98
  .skip
  (.exit 2))
  (.seq (.block 3 (.seq (io [.o 99 (.ix true 2 2 t96 t97), .o 25 (.alloc (.st (zc (.cons (.val (.nilFunc)) .nil)))), .n (.sto 2 t25 t99)])
  (.dops [ef 100 1 1 t25, el 101 false 1 t100, em 102 t21, em 103 t23, es 104 3 t102 t103, .o 105 (.calv t101 [t104]), .o 106 (.nck t105), el 107 false 1 t106, ef 108 1 1 t25, el 109 false 1 t108, em 110 t19, em 111 t23, es 112 3 t110 t111, .o 113 (.calv t109 [t112]), .o 114 (.nck t113), el 115 false 1 t114, eb 116 .sub t107 t115, .o 117 (.nck t105), .n (.sto 1 t117 t116)])))
  (.ops [eb 118 .add t97 (ci 1), em 97 t118])))))))))
  (.ops [eb 119 .add t93 (ci 1), em 93 t119])))))))
  (.seq (io [em 120 t21, em 121 t22, em 122 t20, eb 123 .sub t121 t122, em 10 t120, em 11 t123, em 12 (ci 0)])
  .ret))))))))))))
theorem hc_remit_Period : compF Try.prog 124 Try.f31 = some (ic_remit_Period, [.t 10, .t 11, .t 12]) := by kernel_rfl

theorem fn_r29_Period : Try.prog.funcs[r29_Period]? = some Try.f32 := Try.func32
theorem nt_r29_Period : Try.f32.ntmps = 136 := Try.ntmps32
def ic_r29_Period : IC := (.seq (io [em 10 (.c (.slice none 0 0)), em 11 (ci 0), em 12 (ci 0)])
  (.seq (.seq (io [em 27 t3, ec 28 50 [t27], .o 29 (.un .not t28), em 30 t29, .og 31 30 false (.mv t4), .og 32 30 false (.call 50 [t31]), .og 33 30 false (.un .not t32), .o 34 (.pick t30 ct t33), em 35 t34, .og 36 35 false (.mv t3), .og 37 35 false (.mv t4), .og 38 35 false (.bin .gtr t36 t37), .o 39 (.pick t35 ct t38)])
  (.cond t39
  (.seq (io [em 10 (.c (.slice none 0 0)), em 11 (ci 0), em 12 (ci 2)])
  .ret)
  .skip))
  (.seq (io [em 41 t1, ec 42 25 [t41], em 40 t42, ex 43 0 t40, ex 44 1 t40, em 13 t43, em 14 t44])
  (.seq (.seq (io [em 45 t13, eb 46 .neq t45 (ci 0)])
  (.cond t46
  (.seq (io [em 47 t13, em 10 (.c (.slice none 0 0)), em 11 (ci 0), em 12 t47])
  .ret)
  .skip))
  (.seq (.seq (io [em 48 t2, ec 49 46 [t48], .o 50 (.un .not t49)])
  (.cond t50
  (.seq (io [em 10 (.c (.slice none 0 0)), em 11 (ci 0), em 12 (ci 2)])
  .ret)
  .skip))
  (.seq (io [em 52 t0, em 53 t3, eb 54 .sub t53 (ci 1), ec 55 27 [t52, t54], em 51 t55, ex 56 0 t51, ex 57 1 t51, ex 58 2 t51, em 15 t56, em 16 t57, em 17 t58])
  (.seq (io [em 60 t0, em 61 t4, ec 62 27 [t60, t61], em 59 t62, ex 63 0 t59, ex 64 1 t59, ex 65 2 t59, em 18 t63, em 19 t64, em 20 t65])
  (.seq (.seq (io [em 66 t17, .o 67 (.un .not t66), em 68 t67, .og 69 68 false (.mv t20), .og 70 68 false (.un .not t69), .o 71 (.pick t68 ct t70)])
  (.cond t71
  (.seq (io [em 10 (.c (.slice none 0 0)), em 11 (ci 0), em 12 (ci 3)])
  .ret)
  .skip))
  (.seq (io [em 73 t1, em 74 t2, em 75 t15, em 76 t16, ec 77 28 [t73, t74, t75, t76], em 72 t77, ex 78 0 t72, ex 79 1 t72, ex 80 2 t72, em 21 t78, em 22 t79, em 13 t80])
  (.seq (io [em 82 t1, em 83 t2, em 84 t18, em 85 t19, ec 86 28 [t82, t83, t84, t85], em 81 t86, ex 87 0 t81, ex 88 1 t81, ex 89 2 t81, em 23 t87, em 24 t88, em 25 t89])
  (.seq (.seq (io [em 90 t13, eb 91 .neq t90 (ci 0), em 92 t91, .og 93 92 false (.mv t25), .og 94 92 false (.bin .neq t93 (ci 0)), .o 95 (.pick t92 ct t94)])
  (.cond t95
  (.seq (io [em 10 (.c (.slice none 0 0)), em 11 (ci 0), em 12 (ci 2)])
  .ret)
  .skip))
  (.seq (.seq (io [em 26 (ci 0)])
  (.block 0 (.loop (.seq (.seq (io [em 96 t26, em 97 t23, .o 98 (.len t97), eb 99 .lss t96 t98])
  (.cond t99
  .skip
  (.exit 0)))
  (.seq (.block 1 (.seq (.dops [em 102 t23, em 103 t26, em 104 t23, em 105 t26, es 106 3 t104 t105, ef 107 1 1 t106, el 108 false 1 t107, em 109 t21, em 110 t26, es 111 3 t109 t110, ef 112 1 1 t111, el 113 false 1 t112, eb 114 .sub t108 t113, es 115 3 t102 t103, ef 116 1 1 t115, .n (.sto 1 t116 t114)])
  (.dops [em 117 t23, em 118 t26, em 119 t23, em 120 t26, es 121 3 t119 t120, ef 122 2 2 t121, el 123 false 1 t122, em 124 t21, em 125 t26, es 126 3 t124 t125, ef 127 2 2 t126, el 128 false 1 t127, eb 129 .sub t123 t128, es 130 3 t117 t118, ef 131 2 2 t130, .n (.sto 1 t131 t129)])))
  (.ops [em 100 t26, eb 101 .add t100 (ci 1), em 26 t101]))))))
  (.seq (io [em 132 t23, em 133 t24, em 134 t22, eb 135 .sub t133 t134, em 10 t132, em 11 t135, em 12 (ci 0)])
  .ret)))))))))))))
theorem hc_r29_Period : compF Try.prog 136 Try.f32 = some (ic_r29_Period, [.t 10, .t 11, .t 12]) := by kernel_rfl

theorem fn_l29_sameMoves : Try.prog.funcs[l29_sameMoves]? = some Try.f33 := Try.func33
theorem nt_l29_sameMoves : Try.f33.ntmps = 24 := Try.ntmps33
def ic_l29_sameMoves : IC := (.seq (io [em 4 cf])
  (.seq (io [em 7 t1, ec 8 23 [t7], em 5 t8])
  (.seq (.seq (io [em 6 (ci 0)])
  (.block 0 (.loop (.seq (.seq (io [em 9 t6, em 10 t5, .o 11 (.len t10), eb 12 .lss t9 t11])
  (.cond t12
  .skip
  (.exit 0)))
  (.seq (.block 1 (.seq (.dops [em 15 t0, em 16 t6, es 17 14 t15 t16, el 18 true 14 t17, em 19 t5, em 20 t6, es 21 14 t19 t20, el 22 true 14 t21, .o 23 (.eqs true (.st (.cons .int (.cons .int (.cons (.st (.cons (.arr 12 1 .int) .nil)) .nil)))) t18 t22)])
  (.cond t23
  (.seq (io [em 4 cf])
  .ret)
  .skip)))
  (.ops [em 13 t6, eb 14 .add t13 (ci 1), em 6 t14]))))))
  (.seq (io [em 4 ct])
  .ret))))
theorem hc_l29_sameMoves : compF Try.prog 24 Try.f33 = some (ic_l29_sameMoves, [.t 4]) := by kernel_rfl

theorem fn_l29_sameShares : Try.prog.funcs[l29_sameShares]? = some Try.f34 := Try.func34
theorem nt_l29_sameShares : Try.f34.ntmps = 24 := Try.ntmps34
def ic_l29_sameShares : IC := (.seq (io [em 4 cf])
  (.seq (io [em 7 t1, ec 8 21 [t7], em 5 t8])
  (.seq (.seq (io [em 6 (ci 0)])
  (.block 0 (.loop (.seq (.seq (io [em 9 t6, em 10 t5, .o 11 (.len t10), eb 12 .lss t9 t11])
  (.cond t12
  .skip
  (.exit 0)))
  (.seq (.block 1 (.seq (.dops [em 15 t0, em 16 t6, es 17 2 t15 t16, el 18 true 2 t17, em 19 t5, em 20 t6, es 21 2 t19 t20, el 22 true 2 t21, .o 23 (.eqs true (.st (.cons .int (.cons .int .nil))) t18 t22)])
  (.cond t23
  (.seq (io [em 4 cf])
  .ret)
  .skip)))
  (.ops [em 13 t6, eb 14 .add t13 (ci 1), em 6 t14]))))))
  (.seq (io [em 4 ct])
  .ret))))
theorem hc_l29_sameShares : compF Try.prog 24 Try.f34 = some (ic_l29_sameShares, [.t 4]) := by kernel_rfl

theorem fn_l29_anew : Try.prog.funcs[l29_anew]? = some Try.f35 := Try.func35
theorem nt_l29_anew : Try.f35.ntmps = 177 := Try.ntmps35
def ic_l29_anew : IC := (.seq (io [em 10 cf])
  (.seq (.seq (io [em 11 (ci 0)])
  (.block 0 (.loop (.seq (.seq (io [em 29 t11, em 30 t0, .o 31 (.len t30), eb 32 .lss t29 t31])
  (.cond t32
  .skip
  (.exit 0)))
  (.seq (.block 1 (.seq (io [em 35 t0, em 36 t11, em 37 t11, .o 38 (.un .neg t37), eb 39 .sub t38 (ci 1), es 40 14 t35 t36, ef 41 2 2 t40, ef 42 0 0 t41, .o 43 (.ixa 12 1 t42 (ci 2)), .n (.sto 1 t43 t39)])
  (.ops [em 44 t0, em 45 t11, em 46 t11, eb 47 .mul (ci 2) t46, .o 48 (.un .neg t47), eb 49 .sub t48 (ci 1), es 50 14 t44 t45, ef 51 2 2 t50, ef 52 0 0 t51, .o 53 (.ixa 12 1 t52 (ci 1)), .n (.sto 1 t53 t49)])))
  (.ops [em 33 t11, eb 34 .add t33 (ci 1), em 11 t34]))))))
  (.seq (.seq (io [em 12 (ci 0)])
  (.block 2 (.loop (.seq (.seq (io [em 54 t12, em 55 t1, .o 56 (.len t55), eb 57 .lss t54 t56])
  (.cond t57
  .skip
  (.exit 2)))
  (.seq (.block 3 (.ops [em 60 t1, em 61 t12, em 62 t12, eb 63 .add t62 (ci 1), em 64 t12, eb 65 .rem t64 (ci 3), eb 66 .add t65 (ci 1), .o 67 (.build (.st (zc (zc .nil))) [(0, 0, 1, t63), (1, 1, 1, t66)]), es 68 2 t60 t61, .n (.sto 2 t68 t67)]))
  (.ops [em 58 t12, eb 59 .add t58 (ci 1), em 12 t59]))))))
  (.seq (io [em 70 t1, ec 71 24 [t70], em 69 t71, ex 72 0 t69, ex 73 1 t69, em 13 t72, em 14 t73])
  (.seq (io [em 75 t1, ec 76 25 [t75], em 74 t76, ex 77 0 t74, ex 78 1 t74, em 15 t77, em 16 t78])
  (.seq (io [em 80 t0, em 81 t4, ec 82 26 [t80, t81], em 79 t82, ex 83 0 t79, ex 84 1 t79, ex 85 2 t79, em 17 t83, em 18 t84, em 19 t85])
  (.seq (io [em 87 t0, em 88 t4, ec 89 27 [t87, t88], em 86 t89, ex 90 0 t86, ex 91 1 t86, ex 92 2 t86, em 20 t90, em 21 t91, em 22 t92])
  (.seq (.seq (io [em 93 t13, em 94 t15, eb 95 .neq t93 t94, em 96 t95, .og 97 96 false (.mv t14), .og 98 96 false (.mv t16), .og 99 96 false (.bin .neq t97 t98), .o 100 (.pick t96 ct t99), em 101 t100, .og 102 101 false (.mv t17), .og 103 101 false (.mv t20), .og 104 101 false (.bin .neq t102 t103), .o 105 (.pick t101 ct t104), em 106 t105, .og 107 106 false (.mv t18), .og 108 106 false (.mv t21), .og 109 106 false (.bin .neq t107 t108), .o 110 (.pick t106 ct t109), em 111 t110, .og 112 111 false (.mv t19), .og 113 111 false (.mv t22), .og 114 111 false (.eqv true t112 t113), .o 115 (.pick t111 ct t114)])
  (.cond t115
  (.seq (io [em 10 cf])
  .ret)
  .skip))
  (.seq (io [em 117 t1, em 118 t2, ec 119 20 [t117, t118, (ci 1000), (ci 333)], em 116 t119, ex 120 0 t116, ex 121 1 t116, ex 122 2 t116, em 23 t120, em 24 t121, em 25 t122])
  (.seq (io [em 124 t1, em 125 t2, ec 126 28 [t124, t125, (ci 1000), (ci 333)], em 123 t126, ex 127 0 t123, ex 128 1 t123, ex 129 2 t123, em 26 t127, em 27 t128, em 28 t129])
  (.seq (.seq (io [em 130 t24, em 131 t27, eb 132 .neq t130 t131, em 133 t132, .og 134 133 false (.mv t25), .og 135 133 false (.mv t28), .og 136 133 false (.bin .neq t134 t135), .o 137 (.pick t133 ct t136), em 138 t137, .og 139 138 false (.mv t23), .og 140 138 false (.mv t26), .og 141 138 false (.call 29 [t139, t140]), .og 142 138 false (.un .not t141), .o 143 (.pick t138 ct t142)])
  (.cond t143
  (.seq (io [em 10 cf])
  .ret)
  .skip))
  (.seq (io [em 145 t0, em 146 t1, em 147 t2, em 148 t3, em 149 t4, ec 150 31 [t145, t146, t147, t148, t149], em 144 t150, ex 151 0 t144, ex 152 1 t144, ex 153 2 t144, em 23 t151, em 24 t152, em 25 t153])
  (.seq (io [em 155 t0, em 156 t1, em 157 t2, em 158 t3, em 159 t4, ec 160 32 [t155, t156, t157, t158, t159], em 154 t160, ex 161 0 t154, ex 162 1 t154, ex 163 2 t154, em 26 t161, em 27 t162, em 28 t163])
  (.seq (io [em 164 t24, em 165 t27, eb 166 .eql t164 t165, em 167 t166, .og 168 167 true (.mv t25), .og 169 167 true (.mv t28), .og 170 167 true (.bin .eql t168 t169), .o 171 (.pick t167 t170 cf), em 172 t171, .og 173 172 true (.mv t23), .og 174 172 true (.mv t26), .og 175 172 true (.call 29 [t173, t174]), .o 176 (.pick t172 t175 cf), em 10 t176])
  .ret))))))))))))))
theorem hc_l29_anew : compF Try.prog 177 Try.f35 = some (ic_l29_anew, [.t 10]) := by kernel_rfl

theorem fn_r1_Sum : Try.prog.funcs[r1_Sum]? = some Try.f38 := Try.func38
theorem nt_r1_Sum : Try.f38.ntmps = 32 := Try.ntmps38
def ic_r1_Sum : IC := (.seq (io [em 2 (ci 0), em 3 cf])
  (.seq (io [em 4 (ci 0), em 5 (ci 0)])
  (.seq (.seq (io [em 6 (ci 0)])
  (.block 0 (.loop (.seq (.seq (io [em 7 t6, em 8 t0, .o 9 (.len t8), eb 10 .lss t7 t9])
  (.cond t10
  .skip
  (.exit 0)))
  (.seq (.block 1 (.seq (io [em 13 t4, em 14 t0, em 15 t6, es 16 1 t14 t15, el 17 false 1 t16, ec 18 52 [t17], eb 19 .add t13 t18, em 4 t19])
  (.ops [em 20 t5, em 21 t0, em 22 t6, es 23 1 t21 t22, el 24 false 1 t23, ec 25 53 [t24], eb 26 .add t20 t25, em 5 t26])))
  (.ops [em 11 t6, eb 12 .add t11 (ci 1), em 6 t12]))))))
  (.seq (io [em 27 t4, em 28 t5, ec 29 54 [t27, t28], ex 30 0 t29, ex 31 1 t29, em 2 t30, em 3 t31])
  .ret))))
theorem hc_r1_Sum : compF Try.prog 32 Try.f38 = some (ic_r1_Sum, [.t 2, .t 3]) := by kernel_rfl

theorem fn_remit_isRate : Try.prog.funcs[remit_isRate]? = some Try.f41 := Try.func41
theorem nt_remit_isRate : Try.f41.ntmps = 9 := Try.ntmps41
def ic_remit_isRate : IC := (.seq (io [em 2 cf])
  (.seq (io [em 3 t0, eb 4 .geq t3 (ci 0), em 5 t4, .og 6 5 true (.mv t0), .og 7 5 true (.bin .leq t6 (ci 10000)), .o 8 (.pick t5 t7 cf), em 2 t8])
  .ret))
theorem hc_remit_isRate : compF Try.prog 9 Try.f41 = some (ic_remit_isRate, [.t 2]) := by kernel_rfl

theorem fn_remit_due : Try.prog.funcs[remit_due]? = some Try.f42 := Try.func42
theorem nt_remit_due : Try.f42.ntmps = 89 := Try.ntmps42
def ic_remit_due : IC := (.seq (io [.o 5 (.box t2), em 6 (.c (.slice none 0 0)), em 7 (ci 0)])
  (.seq (io [.o 20 (.ixa 2 1 t5 (ci 1)), el 21 false 1 t20, em 22 t1, ec 23 55 [t21, t22], em 19 t23, ex 24 0 t19, ex 25 1 t19, em 8 t24, em 9 t25])
  (.seq (io [.o 26 (.ixa 2 1 t5 (ci 1)), el 27 false 1 t26, em 28 t8, eb 29 .sub t27 t28, .o 30 (.ixa 2 1 t5 (ci 1)), .n (.sto 1 t30 t29)])
  (.seq (io [em 31 t0, .o 32 (.len t31), .o 33 (.mks 1 8 2 zi t32 t32), em 10 t33])
  (.seq (io [em 34 t0, .o 35 (.len t34), .o 36 (.mks 3 24 81 (.st (zc (zc (zc .nil)))) t35 t35), em 11 t36])
  (.seq (.seq (io [em 37 t0, .o 38 (.len t37), em 39 (ci 0)])
  (.block 0 (.loop (.seq (io [eb 40 .lss t39 t38])
  (.seq (.cond t40
  .skip
  (.exit 0))
  (.seq (.block 1 (.seq (io [em 41 t39, es 42 2 t37 t39, el 43 true 2 t42, .o 13 (.alloc (.st (zc (zc .nil)))), em 12 t41, .n (.sto 2 t13 t43)])
  (.seq (io [em 44 t10, em 45 t12, ef 46 1 1 t13, el 47 false 1 t46, es 48 1 t44 t45, .n (.sto 1 t48 t47)])
  (.ops [em 49 t11, em 50 t12, ef 51 0 0 t13, el 52 false 1 t51, es 53 3 t49 t50, ef 54 0 0 t53, .n (.sto 1 t54 t52)]))))
  (.ops [eb 55 .add t39 (ci 1), em 39 t55])))))))
  (.seq (.seq (io [ec 56 49 [], em 57 (ci 0)])
  (.block 2 (.loop (.seq (io [eb 58 .lss t57 (ci 2)])
  (.seq (.cond t58
  .skip
  (.exit 2))
  (.seq (.block 3 (.seq (io [em 59 t57, .o 60 (.ix true 2 2 t56 t57), .o 15 (.alloc (.st (zc (.cons (.val (.nilFunc)) .nil)))), em 14 t59, .n (.sto 2 t15 t60)])
  (.seq (io [em 62 t14, .o 63 (.ixa 2 1 t5 t62), el 64 false 1 t63, em 65 t10, ec 66 56 [t64, t65], em 61 t66, ex 67 0 t61, ex 68 1 t61, em 16 t67, em 17 t68])
  (.seq (io [em 69 t11, .o 70 (.len t69), em 71 (ci 0)])
  (.block 4 (.loop (.seq (io [eb 72 .lss t71 t70])
  (.seq (.cond t72
  .skip
  (.exit 4))
  (.seq (.block 5 (.seq (io [em 73 t71, em 18 t73])
  (.dops [ef 74 1 1 t15, el 75 false 1 t74, em 76 t11, em 77 t18, es 78 3 t76 t77, .o 79 (.calv t75 [t78]), em 80 t16, em 81 t18, es 82 1 t80 t81, el 83 false 1 t82, .o 84 (.nck t79), .n (.sto 1 t84 t83)])))
  (.ops [eb 85 .add t71 (ci 1), em 71 t85]))))))))))
  (.ops [eb 86 .add t57 (ci 1), em 57 t86])))))))
  (.seq (io [em 87 t11, em 88 t8, em 6 t87, em 7 t88])
  .ret))))))))
theorem hc_remit_due : compF Try.prog 89 Try.f42 = some (ic_remit_due, [.t 6, .t 7]) := by kernel_rfl

theorem fn_l29_near : Try.prog.funcs[l29_near]? = some Try.f43 := Try.func43
theorem nt_l29_near : Try.f43.ntmps = 36 := Try.ntmps43
def ic_l29_near : IC := (.seq (io [em 8 cf])
  (.seq (io [em 13 t1, em 14 t2, em 15 t3, ec 16 57 [t13, t14, t15], em 12 t16, ex 17 0 t12, ex 18 1 t12, ex 19 2 t12, em 9 t17, em 10 t18, em 11 t19])
  (.seq (io [em 20 t11, em 21 t20, .og 22 21 true (.mv t0), .og 23 21 true (.mv t9), .og 24 21 true (.bin .eql t22 t23), .og 25 21 true (.mv t24), .og 26 25 false (.mv t0), .og 27 25 false (.mv t9), .og 28 25 false (.bin .add t27 (ci 1)), .og 29 25 false (.bin .eql t26 t28), .og 30 25 false (.mv t29), .og 31 30 true (.mv t10), .og 32 30 true (.bin .gtr t31 (ci 0)), .og 33 25 false (.pick t30 t32 cf), .og 34 21 true (.pick t25 ct t33), .o 35 (.pick t21 t34 cf), em 8 t35])
  .ret)))
theorem hc_l29_near : compF Try.prog 36 Try.f43 = some (ic_l29_near, [.t 8]) := by kernel_rfl

theorem fn_remit_collected : Try.prog.funcs[remit_collected]? = some Try.f44 := Try.func44
theorem nt_remit_collected : Try.f44.ntmps = 67 := Try.ntmps44
def ic_remit_collected : IC := (.seq (io [.o 4 (.alloc (.arr 2 1 fun _ => zi)), em 5 cf])
  (.seq (io [em 5 ct])
  (.seq (.seq (io [em 12 (ci 0)])
  (.block 0 (.loop (.seq (io [eb 13 .lss t12 (ci 2)])
  (.seq (.cond t13
  .skip
  (.exit 0))
  (.seq (.block 1 (.seq (io [em 14 t12, em 6 t14])
  (.seq (io [em 7 (.c (.slice none 0 0))])
  (.seq (.seq (io [em 15 t0, .o 16 (.len t15), em 17 (ci 0)])
  (.block 2 (.loop (.seq (io [eb 18 .lss t17 t16])
  (.seq (.cond t18
  .skip
  (.exit 2))
  (.seq (.block 3 (.seq (io [es 19 14 t15 t17, el 20 true 14 t19, .o 9 (.alloc (.st (zc (zc (.cons (.st (.cons (.arr 12 1 fun _ => zi) .nil)) .nil))))), .n (.sto 14 t9 t20)])
  (.seq (io [ef 21 1 1 t9, el 22 false 1 t21, eb 23 .eql t22 (ci 2), em 24 t23, .og 25 24 false (.fa 1 1 t9), .og 26 24 false (.ld false 1 t25), .og 27 24 false (.bin .eql t26 (ci 3)), .o 28 (.pick t24 ct t27), em 29 t28, .og 30 29 true (.fa 0 0 t9), .og 31 29 true (.ld false 1 t30), .og 32 29 true (.mv t1), .og 33 29 true (.bin .leq t31 t32), .o 34 (.pick t29 t33 cf)])
  (.cond t34
  (.ops [em 35 t7, ec 36 49 [], em 37 t6, .o 38 (.ix true 2 2 t36 t37), .o 39 (.fld false 1 0 0 t38), ef 40 2 2 t9, ef 41 0 0 t40, .o 42 (.ixa 12 1 t41 t39), el 43 false 1 t42, .o 44 (.un .xor t43), .o 45 (.bsl 1 2 zi [(0, 0, 1, t44)]), .o 46 (.app 1 8 2 t35 t45), em 7 t46])
  .skip))))
  (.ops [eb 47 .add t17 (ci 1), em 17 t47])))))))
  (.seq (io [em 49 t7, em 50 t7, .o 51 (.len t50), .o 52 (.bsl 1 2 zi [(0, 0, 1, t51)]), .o 53 (.app 1 8 2 t49 t52), ec 54 58 [t53], em 48 t54, ex 55 0 t48, ex 56 1 t48, em 10 t55, em 11 t56])
  (.ops [em 57 t6, em 58 t10, em 59 t5, em 60 t59, .og 61 60 true (.mv t11), .o 62 (.pick t60 t61 cf), .o 63 (.ixa 2 1 t4 t57), .n (.sto 1 t63 t58), em 5 t62]))))))
  (.ops [eb 64 .add t12 (ci 1), em 12 t64])))))))
  (.seq (io [el 65 true 2 t4, em 66 t5, .n (.sto 2 t4 t65), em 5 t66])
  .ret))))
theorem hc_remit_collected : compF Try.prog 67 Try.f44 = some (ic_remit_collected, [.c 4 true 2, .t 5]) := by kernel_rfl

theorem fn_r29_lowered : Try.prog.funcs[r29_lowered]? = some Try.f45 := Try.func45
theorem nt_r29_lowered : Try.f45.ntmps = 48 := Try.ntmps45
def ic_r29_lowered : IC := (.seq (io [em 6 (ci 0), em 7 cf])
  (.seq (io [em 8 (.c (.slice none 0 0))])
  (.seq (.seq (io [em 9 (ci 0)])
  (.block 0 (.loop (.seq (.seq (io [em 11 t9, em 12 t0, .o 13 (.len t12), eb 14 .lss t11 t13])
  (.cond t14
  .skip
  (.exit 0)))
  (.seq (.block 1 (.seq (io [em 17 t0, em 18 t9, es 19 14 t17 t18, el 20 true 14 t19, .o 10 (.alloc (.st (zc (zc (.cons (.st (.cons (.arr 12 1 fun _ => zi) .nil)) .nil))))), .n (.sto 14 t10 t20)])
  (.seq (io [ef 21 1 1 t10, el 22 false 1 t21, eb 23 .eql t22 (ci 2), em 24 t23, .og 25 24 false (.fa 1 1 t10), .og 26 24 false (.ld false 1 t25), .og 27 24 false (.bin .eql t26 (ci 3)), .o 28 (.pick t24 ct t27), em 29 t28, .og 30 29 true (.fa 0 0 t10), .og 31 29 true (.ld false 1 t30), .og 32 29 true (.mv t1), .og 33 29 true (.bin .leq t31 t32), .o 34 (.pick t29 t33 cf)])
  (.cond t34
  (.ops [em 35 t8, em 36 t2, ef 37 2 2 t10, ef 38 0 0 t37, .o 39 (.ixa 12 1 t38 t36), el 40 false 1 t39, eb 41 .sub (ci (-1)) t40, .o 42 (.bsl 1 2 zi [(0, 0, 1, t41), (1, 1, 1, (ci 1))]), .o 43 (.app 1 8 2 t35 t42), em 8 t43])
  .skip))))
  (.ops [em 15 t9, eb 16 .add t15 (ci 1), em 9 t16]))))))
  (.seq (io [em 44 t8, ec 45 38 [t44], ex 46 0 t45, ex 47 1 t45, em 6 t46, em 7 t47])
  .ret))))
theorem hc_r29_lowered : compF Try.prog 48 Try.f45 = some (ic_r29_lowered, [.t 6, .t 7]) := by kernel_rfl

theorem fn_r29_isRate : Try.prog.funcs[r29_isRate]? = some Try.f46 := Try.func46
theorem nt_r29_isRate : Try.f46.ntmps = 9 := Try.ntmps46
def ic_r29_isRate : IC := (.seq (io [em 2 cf])
  (.seq (io [em 3 t0, eb 4 .geq t3 (ci 0), em 5 t4, .og 6 5 true (.mv t0), .og 7 5 true (.bin .leq t6 (ci 10000)), .o 8 (.pick t5 t7 cf), em 2 t8])
  .ret))
theorem hc_r29_isRate : compF Try.prog 9 Try.f46 = some (ic_r29_isRate, [.t 2]) := by kernel_rfl

theorem fn_r1_Bps : Try.prog.funcs[r1_Bps]? = some Try.f47 := Try.func47
theorem nt_r1_Bps : Try.f47.ntmps = 11 := Try.ntmps47
def ic_r1_Bps : IC := (.seq (io [em 4 (ci 0), em 5 cf])
  (.seq (io [em 6 t0, em 7 t1, ec 8 59 [t6, t7, (ci 10000)], ex 9 0 t8, ex 10 1 t8, em 4 t9, em 5 t10])
  .ret))
theorem hc_r1_Bps : compF Try.prog 11 Try.f47 = some (ic_r1_Bps, [.t 4, .t 5]) := by kernel_rfl

theorem fn_r1_Split : Try.prog.funcs[r1_Split]? = some Try.f48 := Try.func48
theorem nt_r1_Split : Try.f48.ntmps = 88 := Try.ntmps48
def ic_r1_Split : IC := (.seq (io [em 4 (.c (.slice none 0 0)), em 5 cf])
  (.seq (io [em 19 t0, em 20 t1, ec 21 60 [t19, t20], em 18 t21, ex 22 0 t18, ex 23 1 t18, em 6 t22, em 7 t23])
  (.seq (.seq (io [em 24 t7, .o 25 (.un .not t24)])
  (.cond t25
  (.seq (io [em 4 (.c (.slice none 0 0)), em 5 cf])
  .ret)
  .skip))
  (.seq (io [em 8 (.c (.slice none 0 0)), em 9 (.c (.slice none 0 0))])
  (.seq (io [em 26 t0, em 10 t26])
  (.seq (.seq (io [em 11 (ci 0)])
  (.block 0 (.loop (.seq (.seq (io [em 27 t11, em 28 t1, .o 29 (.len t28), eb 30 .lss t27 t29])
  (.cond t30
  .skip
  (.exit 0)))
  (.seq (.block 1 (.seq (io [em 34 t0, em 35 t1, em 36 t11, es 37 1 t35 t36, el 38 false 1 t37, em 39 t6, ec 40 61 [t34, t38, t39], em 33 t40, ex 41 0 t33, ex 42 1 t33, ex 43 2 t33, em 12 t41, em 13 t42, em 14 t43])
  (.seq (io [em 44 t8, em 45 t12, .o 46 (.bsl 1 2 zi [(0, 0, 1, t45)]), .o 47 (.app 1 8 2 t44 t46), em 8 t47])
  (.seq (io [em 48 t9, em 49 t13, .o 50 (.bsl 1 2 zi [(0, 0, 1, t49)]), .o 51 (.app 1 8 2 t48 t50), em 9 t51])
  (.ops [em 52 t10, em 53 t12, eb 54 .sub t52 t53, em 10 t54])))))
  (.ops [em 31 t11, eb 32 .add t31 (ci 1), em 11 t32]))))))
  (.seq (.seq (io [em 15 (ci 0)])
  (.block 2 (.loop (.seq (.seq (io [em 55 t15, em 56 t10, eb 57 .lss t55 t56])
  (.cond t57
  .skip
  (.exit 2)))
  (.seq (.block 3 (.seq (io [em 16 (ci 0)])
  (.seq (.seq (io [em 17 (ci 1)])
  (.block 4 (.loop (.seq (.seq (io [em 60 t17, em 61 t9, .o 62 (.len t61), eb 63 .lss t60 t62])
  (.cond t63
  .skip
  (.exit 4)))
  (.seq (.block 5 (.seq (.dops [em 66 t9, em 67 t17, es 68 1 t66 t67, el 69 false 1 t68, em 70 t9, em 71 t16, es 72 1 t70 t71, el 73 false 1 t72, eb 74 .gtr t69 t73])
  (.cond t74
  (.ops [em 75 t17, em 16 t75])
  .skip)))
  (.ops [em 64 t17, eb 65 .add t64 (ci 1), em 17 t65]))))))
  (.seq (io [em 76 t8, em 77 t16, em 78 t8, em 79 t16, es 80 1 t78 t79, el 81 false 1 t80, eb 82 .add t81 (ci 1), es 83 1 t76 t77, .n (.sto 1 t83 t82)])
  (.ops [em 84 t9, em 85 t16, es 86 1 t84 t85, .n (.sto 1 t86 (ci (-1)))])))))
  (.ops [em 58 t15, eb 59 .add t58 (ci 1), em 15 t59]))))))
  (.seq (io [em 87 t8, em 4 t87, em 5 ct])
  .ret))))))))
theorem hc_r1_Split : compF Try.prog 88 Try.f48 = some (ic_r1_Split, [.t 4, .t 5]) := by kernel_rfl

theorem fn_remit_columns : Try.prog.funcs[remit_columns]? = some Try.f49 := Try.func49
theorem nt_remit_columns : Try.f49.ntmps = 4 := Try.ntmps49
def ic_remit_columns : IC := (.seq (io [.o 0 (.alloc (.arr 2 2 fun _ => (.st (zc (.cons (.val (.nilFunc)) .nil)))))])
  (.seq (io [.o 1 (.build (.st (zc (.cons (.val (.nilFunc)) .nil))) [(0, 0, 1, (ci 1)), (1, 1, 1, (.f 62))]), .o 2 (.build (.st (zc (.cons (.val (.nilFunc)) .nil))) [(0, 0, 1, (ci 2)), (1, 1, 1, (.f 63))]), .o 3 (.build (.arr 2 2 fun _ => (.st (zc (.cons (.val (.nilFunc)) .nil)))) [(0, 0, 2, t1), (1, 2, 2, t2)]), .n (.sto 4 t0 t3)])
  .ret))
theorem hc_remit_columns : compF Try.prog 4 Try.f49 = some (ic_remit_columns, [.c 0 true 4]) := by kernel_rfl

end Go.Proofs.Ytjkmmcbfcglkdaa
