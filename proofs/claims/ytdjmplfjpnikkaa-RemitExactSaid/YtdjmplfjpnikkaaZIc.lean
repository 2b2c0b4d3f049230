/- The given functions as the walk reads them: each constant is what the program's text comes to. No condition. -/
import Derived.Test.YtdjmplfjpnikkaaA7
import Derived.Test.YtdjmplfjpnikkaaA6
import Derived.Test.YtdjmplfjpnikkaaA10
import Derived.Test.YtdjmplfjpnikkaaProg
import Derived.KernelRfl
set_option linter.all false
namespace Go.Proofs.Ytdjmplfjpnikkaa
open Go Ar
set_option linter.unusedVariables false
set_option maxRecDepth 100000

abbrev gl0 : Nat → AV := fun _ => .any
theorem gl0n : ∀ i, nf (gl0 i) := fun _ => trivial
theorem gl0w : GlW gl0 := glw_any (fun _ => rfl)
theorem mixed : Try.prog.follows .mixedOrders = true := rfl

abbrev zi : AV := .val (.int .i64 0)
abbrev zs : AV := .val (.slice none 0 0)
abbrev zc (a : AV) : AV := .cons zi a
abbrev zf (a : AV) : AV := .cons (.val (.bool false)) a
abbrev ci (n : Int) : X := .c (.int .i64 n)
abbrev cf : X := .c (.bool false)
abbrev ct : X := .c (.bool true)
abbrev em (d : Nat) (x : X) : Ent := .o d (.mv x)
abbrev eb (d : Nat) (b : BinOp) (x y : X) : Ent := .o d (.bin b x y)
abbrev el (d : Nat) (g : Bool) (n : Nat) (x : X) : Ent := .o d (.ld g n x)
abbrev ef (d k o : Nat) (x : X) : Ent := .o d (.fa k o x)
abbrev ex (d k : Nat) (x : X) : Ent := .o d (.ext k x)
abbrev es (d e : Nat) (x i : X) : Ent := .o d (.ixs e x i)
abbrev ec (d f : Nat) (l : List X) : Ent := .o d (.call f l)
abbrev ey (d f : Nat) (l : List X) : Ent := .o d (.callx f l)
abbrev io (l : List Ent) : IC := .ops l
abbrev t0 : X := .t 0
abbrev t1 : X := .t 1
abbrev t2 : X := .t 2
abbrev t3 : X := .t 3
abbrev t4 : X := .t 4
abbrev t5 : X := .t 5
abbrev t6 : X := .t 6
abbrev t7 : X := .t 7
abbrev t8 : X := .t 8
abbrev t9 : X := .t 9
abbrev t10 : X := .t 10
abbrev t11 : X := .t 11
abbrev t12 : X := .t 12
abbrev t13 : X := .t 13
abbrev t14 : X := .t 14
abbrev t15 : X := .t 15
abbrev t16 : X := .t 16
abbrev t17 : X := .t 17
abbrev t18 : X := .t 18
abbrev t19 : X := .t 19
abbrev t20 : X := .t 20
abbrev t21 : X := .t 21
abbrev t22 : X := .t 22
abbrev t23 : X := .t 23
abbrev t24 : X := .t 24
abbrev t25 : X := .t 25
abbrev t26 : X := .t 26
abbrev t27 : X := .t 27
abbrev t28 : X := .t 28
abbrev t29 : X := .t 29
abbrev t30 : X := .t 30
abbrev t31 : X := .t 31
abbrev t32 : X := .t 32
abbrev t33 : X := .t 33
abbrev t34 : X := .t 34
abbrev t35 : X := .t 35
abbrev t36 : X := .t 36
abbrev t37 : X := .t 37
abbrev t38 : X := .t 38
abbrev t39 : X := .t 39
abbrev t40 : X := .t 40
abbrev t41 : X := .t 41
abbrev t42 : X := .t 42
abbrev t43 : X := .t 43
abbrev t44 : X := .t 44
abbrev t45 : X := .t 45
abbrev t46 : X := .t 46
abbrev t47 : X := .t 47
abbrev t48 : X := .t 48
abbrev t49 : X := .t 49
abbrev t50 : X := .t 50
abbrev t51 : X := .t 51
abbrev t52 : X := .t 52
abbrev t53 : X := .t 53
abbrev t54 : X := .t 54
abbrev t55 : X := .t 55
abbrev t56 : X := .t 56
abbrev t57 : X := .t 57
abbrev t58 : X := .t 58
abbrev t59 : X := .t 59
abbrev t60 : X := .t 60
abbrev t61 : X := .t 61
abbrev t62 : X := .t 62
abbrev t63 : X := .t 63
abbrev t64 : X := .t 64
abbrev t65 : X := .t 65
abbrev t66 : X := .t 66
abbrev t67 : X := .t 67
abbrev t68 : X := .t 68
abbrev t69 : X := .t 69
abbrev t70 : X := .t 70
abbrev t71 : X := .t 71
abbrev t72 : X := .t 72
abbrev t73 : X := .t 73
abbrev t74 : X := .t 74
abbrev t75 : X := .t 75
abbrev t76 : X := .t 76
abbrev t77 : X := .t 77
abbrev t78 : X := .t 78
abbrev t79 : X := .t 79
abbrev t80 : X := .t 80
abbrev t81 : X := .t 81
abbrev t82 : X := .t 82
abbrev t83 : X := .t 83
abbrev t84 : X := .t 84
abbrev t85 : X := .t 85
abbrev t86 : X := .t 86
abbrev t87 : X := .t 87
abbrev t88 : X := .t 88
abbrev t89 : X := .t 89
abbrev t90 : X := .t 90
abbrev t91 : X := .t 91
abbrev t92 : X := .t 92
abbrev t93 : X := .t 93
abbrev t94 : X := .t 94
abbrev t95 : X := .t 95
abbrev t96 : X := .t 96
abbrev t97 : X := .t 97
abbrev t98 : X := .t 98
abbrev t99 : X := .t 99
abbrev t100 : X := .t 100
abbrev t101 : X := .t 101
abbrev t102 : X := .t 102
abbrev t103 : X := .t 103
abbrev t104 : X := .t 104
abbrev t105 : X := .t 105
abbrev t106 : X := .t 106
abbrev t107 : X := .t 107
abbrev t108 : X := .t 108
abbrev t109 : X := .t 109
abbrev t110 : X := .t 110
abbrev t111 : X := .t 111
abbrev t112 : X := .t 112
abbrev t113 : X := .t 113
abbrev t114 : X := .t 114
abbrev t115 : X := .t 115
abbrev t116 : X := .t 116
abbrev t117 : X := .t 117
abbrev t118 : X := .t 118
abbrev t119 : X := .t 119
abbrev t120 : X := .t 120
abbrev t121 : X := .t 121
abbrev t122 : X := .t 122
abbrev t123 : X := .t 123
abbrev t124 : X := .t 124
abbrev t125 : X := .t 125
abbrev t126 : X := .t 126
abbrev t127 : X := .t 127
abbrev t128 : X := .t 128
abbrev t129 : X := .t 129
abbrev t130 : X := .t 130
abbrev t131 : X := .t 131
abbrev t132 : X := .t 132
abbrev t133 : X := .t 133
abbrev t134 : X := .t 134
abbrev t135 : X := .t 135
abbrev t136 : X := .t 136
abbrev t137 : X := .t 137
abbrev t138 : X := .t 138
abbrev t139 : X := .t 139
abbrev t140 : X := .t 140
abbrev t141 : X := .t 141
abbrev t142 : X := .t 142
abbrev t143 : X := .t 143
abbrev t144 : X := .t 144
abbrev t145 : X := .t 145
abbrev t146 : X := .t 146
abbrev t147 : X := .t 147
abbrev t148 : X := .t 148
abbrev t149 : X := .t 149
abbrev t150 : X := .t 150
abbrev t151 : X := .t 151
abbrev t152 : X := .t 152
abbrev t153 : X := .t 153
abbrev t154 : X := .t 154
abbrev t155 : X := .t 155
abbrev t156 : X := .t 156
abbrev t157 : X := .t 157
abbrev t158 : X := .t 158
abbrev t159 : X := .t 159
abbrev t160 : X := .t 160
abbrev t161 : X := .t 161
abbrev t162 : X := .t 162
abbrev t163 : X := .t 163
abbrev t164 : X := .t 164
abbrev t165 : X := .t 165
abbrev t166 : X := .t 166
abbrev t167 : X := .t 167
abbrev t168 : X := .t 168
abbrev t169 : X := .t 169
abbrev t170 : X := .t 170
abbrev t171 : X := .t 171
abbrev t172 : X := .t 172
abbrev t173 : X := .t 173
abbrev t174 : X := .t 174
abbrev t175 : X := .t 175
abbrev t176 : X := .t 176
abbrev t177 : X := .t 177
abbrev t178 : X := .t 178
abbrev t179 : X := .t 179
abbrev t180 : X := .t 180
abbrev t181 : X := .t 181
abbrev t182 : X := .t 182
abbrev t183 : X := .t 183
abbrev t184 : X := .t 184
abbrev t185 : X := .t 185
abbrev t186 : X := .t 186
abbrev t187 : X := .t 187
abbrev t188 : X := .t 188
abbrev t189 : X := .t 189
abbrev t190 : X := .t 190
abbrev t191 : X := .t 191
abbrev t192 : X := .t 192
abbrev t193 : X := .t 193
abbrev t194 : X := .t 194
abbrev t195 : X := .t 195
abbrev t196 : X := .t 196
abbrev t197 : X := .t 197
abbrev t198 : X := .t 198
abbrev t199 : X := .t 199
abbrev t200 : X := .t 200
abbrev t201 : X := .t 201
abbrev t202 : X := .t 202
abbrev t203 : X := .t 203
abbrev t204 : X := .t 204
abbrev t205 : X := .t 205
abbrev t206 : X := .t 206
abbrev t207 : X := .t 207
abbrev t208 : X := .t 208
abbrev t209 : X := .t 209
abbrev t210 : X := .t 210
abbrev t211 : X := .t 211
abbrev t212 : X := .t 212
abbrev t213 : X := .t 213
abbrev t214 : X := .t 214
abbrev t215 : X := .t 215
abbrev t216 : X := .t 216
abbrev t217 : X := .t 217
abbrev t218 : X := .t 218
abbrev t219 : X := .t 219
abbrev t220 : X := .t 220
abbrev t221 : X := .t 221
abbrev t222 : X := .t 222
abbrev t223 : X := .t 223
abbrev t224 : X := .t 224
abbrev t225 : X := .t 225
abbrev t226 : X := .t 226
abbrev t227 : X := .t 227
abbrev t228 : X := .t 228
abbrev t229 : X := .t 229
abbrev t230 : X := .t 230
abbrev t231 : X := .t 231
abbrev t232 : X := .t 232
abbrev t233 : X := .t 233
abbrev t234 : X := .t 234
abbrev t235 : X := .t 235
abbrev t236 : X := .t 236
abbrev t237 : X := .t 237
abbrev t238 : X := .t 238
abbrev t239 : X := .t 239
abbrev t240 : X := .t 240
abbrev t241 : X := .t 241
abbrev t242 : X := .t 242
abbrev t243 : X := .t 243
abbrev t244 : X := .t 244
abbrev t245 : X := .t 245
abbrev t246 : X := .t 246
abbrev t247 : X := .t 247
abbrev t248 : X := .t 248
abbrev t249 : X := .t 249
abbrev t250 : X := .t 250
abbrev t251 : X := .t 251
abbrev t252 : X := .t 252
abbrev t253 : X := .t 253
abbrev t254 : X := .t 254
abbrev t255 : X := .t 255
abbrev t256 : X := .t 256
abbrev t257 : X := .t 257
abbrev t258 : X := .t 258
abbrev t259 : X := .t 259
abbrev t260 : X := .t 260
abbrev t261 : X := .t 261

abbrev l29_RemitExact : Nat := 3
abbrev l29_ownMoves : Nat := 4
abbrev l29_ownShares : Nat := 5
abbrev remit_Check : Nat := 6
abbrev r29_Check : Nat := 7
abbrev remit_Collected : Nat := 8
abbrev r29_Collected : Nat := 9
abbrev remit_Due : Nat := 10
abbrev r29_Due : Nat := 11
abbrev l29_same : Nat := 12
abbrev l29_spoil : Nat := 13
abbrev remit_Period : Nat := 14
abbrev r29_Period : Nat := 15
abbrev l29_sameMoves : Nat := 16
abbrev l29_sameShares : Nat := 17
abbrev l29_anew : Nat := 18
abbrev remit_collected : Nat := 19
abbrev r29_lowered : Nat := 20
abbrev remit_isRate : Nat := 21
abbrev remit_due : Nat := 22
abbrev r29_isRate : Nat := 23
abbrev r1_Bps : Nat := 24
abbrev r1_Split : Nat := 25
abbrev remit_columns : Nat := 26
abbrev r29_isDay : Nat := 27
abbrev arrears_money_Sum_int64_ : Nat := 28
abbrev r1_Sum : Nat := 29
abbrev money_Bps : Nat := 30
abbrev money_Split : Nat := 31
abbrev r1_MulDiv : Nat := 32
abbrev r1_whole : Nat := 33
abbrev r1_MulDivFloor : Nat := 34
abbrev remit_columns_c1 : Nat := 35
abbrev remit_columns_c2 : Nat := 36
abbrev r1_high : Nat := 38
abbrev r1_lowOf : Nat := 39
abbrev r1_joined : Nat := 40
abbrev money_MulDiv : Nat := 41
abbrev money_weighed : Nat := 42
abbrev money_MulDivFloor : Nat := 43
abbrev r1_size : Nat := 44
abbrev r1_over : Nat := 45
abbrev r1_times : Nat := 46
abbrev r1_digits : Nat := 47
abbrev r1_more : Nat := 48
abbrev r1_signed : Nat := 49
abbrev money_magnitude : Nat := 50
abbrev math_bits_Mul64 : Nat := 51
abbrev math_bits_Div64 : Nat := 52
abbrev money_withSign : Nat := 53
abbrev math_bits_LeadingZeros64 : Nat := 54
abbrev math_bits_Len64 : Nat := 55
theorem fn_l29_RemitExact : Try.prog.funcs[l29_RemitExact]? = some Try.f3 := Try.func3
theorem nt_l29_RemitExact : Try.f3.ntmps = 262 := Try.ntmps3
def ic_l29_RemitExact : IC := (.seq (io [em 14 cf])
  (.seq (.seq (io [em 36 t0, .o 37 (.len t36), eb 38 .gtr t37 (ci 400), em 39 t38, .og 40 39 false (.mv t1), .og 41 39 false (.len t40), .og 42 39 false (.bin .gtr t41 (ci 64)), .o 43 (.pick t39 ct t42)])
  (.cond t43
  (.seq (io [em 14 ct])
  .ret)
  .skip))
  (.seq (io [em 44 t0, ec 45 4 [t44], em 15 t45])
  (.seq (io [em 46 t1, ec 47 5 [t46], em 16 t47])
  (.seq (io [em 49 t16, em 50 t1, .o 51 (.len t50), .o 52 (.slc 2 t49 .no t51), ec 53 6 [t52], em 48 t53, ex 54 0 t48, ex 55 1 t48, em 17 t54, em 18 t55])
  (.seq (io [em 57 t1, ec 58 7 [t57], em 56 t58, ex 59 0 t56, ex 60 1 t56, em 19 t59, em 20 t60])
  (.seq (.seq (io [em 61 t17, em 62 t19, eb 63 .neq t61 t62, em 64 t63, .og 65 64 false (.mv t18), .og 66 64 false (.mv t20), .og 67 64 false (.bin .neq t65 t66), .o 68 (.pick t64 ct t67)])
  (.cond t68
  (.seq (io [em 14 cf])
  .ret)
  .skip))
  (.seq (io [em 70 t15, em 71 t0, .o 72 (.len t71), .o 73 (.slc 14 t70 .no t72), em 74 t6, ec 75 8 [t73, t74], em 69 t75, ex 76 0 t69, ex 77 1 t69, ex 78 2 t69, em 21 t76, em 22 t77, em 23 t78])
  (.seq (io [em 80 t0, em 81 t6, ec 82 9 [t80, t81], em 79 t82, ex 83 0 t79, ex 84 1 t79, ex 85 2 t79, em 24 t83, em 25 t84, em 26 t85])
  (.seq (.seq (io [em 86 t21, em 87 t24, eb 88 .neq t86 t87, em 89 t88, .og 90 89 false (.mv t22), .og 91 89 false (.mv t25), .og 92 89 false (.bin .neq t90 t91), .o 93 (.pick t89 ct t92), em 94 t93, .og 95 94 false (.mv t23), .og 96 94 false (.mv t26), .og 97 94 false (.eqv true t95 t96), .o 98 (.pick t94 ct t97)])
  (.cond t98
  (.seq (io [em 14 cf])
  .ret)
  .skip))
  (.seq (io [em 100 t16, em 101 t1, .o 102 (.len t101), .o 103 (.slc 2 t100 .no t102), em 104 t2, em 105 t3, em 106 t4, ec 107 10 [t103, t104, t105, t106], em 99 t107, ex 108 0 t99, ex 109 1 t99, ex 110 2 t99, em 27 t108, em 28 t109, em 29 t110])
  (.seq (io [em 112 t16, em 113 t1, .o 114 (.len t113), .o 115 (.slc 2 t112 .no t114), em 116 t2, em 117 t3, em 118 t4, ec 119 10 [t115, t116, t117, t118], em 111 t119, ex 120 0 t111, ex 121 1 t111, ex 122 2 t111, em 30 t120, em 31 t121, em 32 t122])
  (.seq (io [em 124 t1, em 125 t2, em 126 t3, em 127 t4, ec 128 11 [t124, t125, t126, t127], em 123 t128, ex 129 0 t123, ex 130 1 t123, ex 131 2 t123, em 33 t129, em 34 t130, em 35 t131])
  (.seq (.seq (io [em 132 t28, em 133 t34, eb 134 .neq t132 t133, em 135 t134, .og 136 135 false (.mv t31), .og 137 135 false (.mv t34), .og 138 135 false (.bin .neq t136 t137), .o 139 (.pick t135 ct t138), em 140 t139, .og 141 140 false (.mv t29), .og 142 140 false (.mv t35), .og 143 140 false (.bin .neq t141 t142), .o 144 (.pick t140 ct t143), em 145 t144, .og 146 145 false (.mv t27), .og 147 145 false (.mv t33), .og 148 145 false (.call 12 [t146, t147]), .og 149 145 false (.un .not t148), .o 150 (.pick t145 ct t149), em 151 t150, .og 152 151 false (.mv t27), .og 153 151 false (.call 13 [t152]), .og 154 151 false (.mv t33), .og 155 151 false (.len t154), .og 156 151 false (.bin .add t155 (ci 64)), .og 157 151 false (.bin .neq t153 t156), .o 158 (.pick t151 ct t157), em 159 t158, .og 160 159 false (.mv t30), .og 161 159 false (.mv t33), .og 162 159 false (.call 12 [t160, t161]), .og 163 159 false (.un .not t162), .o 164 (.pick t159 ct t163)])
  (.cond t164
  (.seq (io [em 14 cf])
  .ret)
  .skip))
  (.seq (.dops [em 166 t15, em 167 t0, .o 168 (.len t167), .o 169 (.slc 14 t166 .no t168), em 170 t16, em 171 t1, .o 172 (.len t171), .o 173 (.slc 2 t170 .no t172), em 174 t2, em 175 t5, em 176 t6, ey 177 14 [t169, t173, t174, t175, t176], em 165 t177, ex 178 0 t165, ex 179 1 t165, ex 180 2 t165, em 27 t178, em 28 t179, em 29 t180])
  (.seq (.dops [em 182 t15, em 183 t0, .o 184 (.len t183), .o 185 (.slc 14 t182 .no t184), em 186 t16, em 187 t1, .o 188 (.len t187), .o 189 (.slc 2 t186 .no t188), em 190 t2, em 191 t5, em 192 t6, ey 193 14 [t185, t189, t190, t191, t192], em 181 t193, ex 194 0 t181, ex 195 1 t181, ex 196 2 t181, em 30 t194, em 31 t195])
  (.seq (io [em 198 t0, em 199 t1, em 200 t2, em 201 t5, em 202 t6, ec 203 15 [t198, t199, t200, t201, t202], em 197 t203, ex 204 0 t197, ex 205 1 t197, ex 206 2 t197, em 33 t204, em 34 t205, em 35 t206])
  (.seq (.seq (io [em 207 t28, em 208 t34, eb 209 .neq t207 t208, em 210 t209, .og 211 210 false (.mv t31), .og 212 210 false (.mv t34), .og 213 210 false (.bin .neq t211 t212), .o 214 (.pick t210 ct t213), em 215 t214, .og 216 215 false (.mv t29), .og 217 215 false (.mv t35), .og 218 215 false (.bin .neq t216 t217), .o 219 (.pick t215 ct t218), em 220 t219, .og 221 220 false (.mv t27), .og 222 220 false (.mv t33), .og 223 220 false (.call 12 [t221, t222]), .og 224 220 false (.un .not t223), .o 225 (.pick t220 ct t224), em 226 t225, .og 227 226 false (.mv t27), .og 228 226 false (.call 13 [t227]), .og 229 226 false (.mv t33), .og 230 226 false (.len t229), .og 231 226 false (.bin .add t230 (ci 64)), .og 232 226 false (.bin .neq t228 t231), .o 233 (.pick t226 ct t232), em 234 t233, .og 235 234 false (.mv t30), .og 236 234 false (.mv t33), .og 237 234 false (.call 12 [t235, t236]), .og 238 234 false (.un .not t237), .o 239 (.pick t234 ct t238)])
  (.cond t239
  (.seq (io [em 14 cf])
  .ret)
  .skip))
  (.seq (.dops [em 240 t15, em 241 t0, ey 242 16 [t240, t241], em 243 t242, .og 244 243 true (.mv t16), .og 245 243 true (.mv t1), .og 246 243 true (.callx 17 [t244, t245]), .o 247 (.pick t243 t246 cf), em 248 t247, .og 249 248 true (.mv t15), .og 250 248 true (.mv t0), .og 251 248 true (.len t250), .og 252 248 true (.slc 14 t249 .no t251), .og 253 248 true (.mv t16), .og 254 248 true (.mv t1), .og 255 248 true (.len t254), .og 256 248 true (.slc 2 t253 .no t255), .og 257 248 true (.mv t2), .og 258 248 true (.mv t5), .og 259 248 true (.mv t6), .og 260 248 true (.callx 18 [t252, t256, t257, t258, t259]), .o 261 (.pick t248 t260 cf), em 14 t261])
  .ret)))))))))))))))))))
theorem hc_l29_RemitExact : compF Try.prog 262 Try.f3 = some (ic_l29_RemitExact, [.t 14]) := by kernel_rfl

theorem fn_l29_ownMoves : Try.prog.funcs[l29_ownMoves]? = some Try.f4 := Try.func4
theorem nt_l29_ownMoves : Try.f4.ntmps = 11 := Try.ntmps4
def ic_l29_ownMoves : IC := (.seq (io [em 2 (.c (.slice none 0 0))])
  (.seq (io [em 3 (.c (.slice none 0 0))])
  (.seq (io [em 4 t3, em 5 t0, .o 6 (.app 14 112 50 t4 t5), em 3 t6])
  (.seq (io [em 7 t3, .o 8 (.build (.st (zc (zc (.cons (.st (.cons (.arr 12 1 fun _ => zi) .nil)) .nil)))) [(0, 0, 1, (ci (-7))), (1, 1, 1, (ci 2))]), .o 9 (.bsl 14 50 (.st (zc (zc (.cons (.st (.cons (.arr 12 1 fun _ => zi) .nil)) .nil)))) [(0, 0, 14, t8)]), .o 10 (.app 14 112 50 t7 t9), em 2 t10])
  .ret))))
theorem hc_l29_ownMoves : compF Try.prog 11 Try.f4 = some (ic_l29_ownMoves, [.t 2]) := by kernel_rfl

theorem fn_l29_ownShares : Try.prog.funcs[l29_ownShares]? = some Try.f5 := Try.func5
theorem nt_l29_ownShares : Try.f5.ntmps = 11 := Try.ntmps5
def ic_l29_ownShares : IC := (.seq (io [em 2 (.c (.slice none 0 0))])
  (.seq (io [em 3 (.c (.slice none 0 0))])
  (.seq (io [em 4 t3, em 5 t0, .o 6 (.app 2 16 52 t4 t5), em 3 t6])
  (.seq (io [em 7 t3, .o 8 (.build (.st (zc (zc .nil))) [(0, 0, 1, (ci (-7)))]), .o 9 (.bsl 2 52 (.st (zc (zc .nil))) [(0, 0, 2, t8)]), .o 10 (.app 2 16 52 t7 t9), em 2 t10])
  .ret))))
theorem hc_l29_ownShares : compF Try.prog 11 Try.f5 = some (ic_l29_ownShares, [.t 2]) := by kernel_rfl

theorem fn_remit_Check : Try.prog.funcs[remit_Check]? = some Try.f6 := Try.func6
theorem nt_remit_Check : Try.f6.ntmps = 53 := Try.ntmps6
def ic_remit_Check : IC := (.seq (io [em 2 (ci 0), em 3 (ci 0)])
  (.seq (.block 0 (.seq (io [em 9 t0, .o 10 (.len t9), eb 11 .eql t10 (ci 0), em 8 t11])
  (.cond t8
  (.seq (io [em 2 (ci 2), em 3 (ci 0)])
  .ret)
  (.seq (io [em 13 t0, .o 14 (.len t13), eb 15 .gtr t14 (ci 32), em 12 t15])
  (.cond t12
  (.seq (io [em 2 (ci 1), em 3 (ci 0)])
  .ret)
  .skip)))))
  (.seq (io [em 4 (ci 0), em 5 (ci 1000000000000)])
  (.seq (.seq (io [em 16 t0, .o 17 (.len t16), em 18 (ci 0)])
  (.block 1 (.loop (.seq (io [eb 19 .lss t18 t17])
  (.seq (.cond t19
  .skip
  (.exit 1))
  (.seq (.block 2 (.seq (io [em 20 t18, em 6 t20])
  (.seq (io [em 21 t0, em 22 t6, es 23 2 t21 t22, el 24 true 2 t23, .o 7 (.alloc (.st (zc (zc .nil)))), .n (.sto 2 t7 t24)])
  (.seq (.seq (io [ef 25 0 0 t7, el 26 false 1 t25, em 27 t4, eb 28 .leq t26 t27, em 29 t28, .og 30 29 false (.fa 0 0 t7), .og 31 29 false (.ld false 1 t30), .og 32 29 false (.bin .gtr t31 (ci 999999)), .o 33 (.pick t29 ct t32), em 34 t33, .og 35 34 false (.fa 1 1 t7), .og 36 34 false (.ld false 1 t35), .og 37 34 false (.bin .lss t36 (ci 1)), .o 38 (.pick t34 ct t37), em 39 t38, .og 40 39 false (.fa 1 1 t7), .og 41 39 false (.ld false 1 t40), .og 42 39 false (.mv t5), .og 43 39 false (.bin .gtr t41 t42), .o 44 (.pick t39 ct t43)])
  (.cond t44
  (.seq (io [em 45 t6, em 2 (ci 2), em 3 t45])
  .ret)
  .skip))
  (.dops [ef 46 0 0 t7, el 47 false 1 t46, em 48 t5, ef 49 1 1 t7, el 50 false 1 t49, eb 51 .sub t48 t50, em 4 t47, em 5 t51])))))
  (.ops [eb 52 .add t18 (ci 1), em 18 t52])))))))
  (.seq (io [em 2 (ci 0), em 3 (ci 0)])
  .ret)))))
theorem hc_remit_Check : compF Try.prog 53 Try.f6 = some (ic_remit_Check, [.t 2, .t 3]) := by kernel_rfl

theorem fn_r29_Check : Try.prog.funcs[r29_Check]? = some Try.f7 := Try.func7
theorem nt_r29_Check : Try.f7.ntmps = 51 := Try.ntmps7
def ic_r29_Check : IC := (.seq (io [em 2 (ci 0), em 3 (ci 0)])
  (.seq (.seq (io [em 8 t0, .o 9 (.len t8), eb 10 .eql t9 (ci 0)])
  (.cond t10
  (.seq (io [em 2 (ci 2), em 3 (ci 0)])
  .ret)
  .skip))
  (.seq (.seq (io [em 11 t0, .o 12 (.len t11), eb 13 .gtr t12 (ci 32)])
  (.cond t13
  (.seq (io [em 2 (ci 1), em 3 (ci 0)])
  .ret)
  .skip))
  (.seq (io [em 4 (ci 0)])
  (.seq (io [em 5 (ci 1000000000000)])
  (.seq (.seq (io [em 6 (ci 0)])
  (.block 0 (.loop (.seq (.seq (io [em 14 t6, em 15 t0, .o 16 (.len t15), eb 17 .lss t14 t16])
  (.cond t17
  .skip
  (.exit 0)))
  (.seq (.block 1 (.seq (io [em 20 t0, em 21 t6, es 22 2 t20 t21, el 23 true 2 t22, .o 7 (.alloc (.st (zc (zc .nil)))), .n (.sto 2 t7 t23)])
  (.seq (.seq (io [ef 24 0 0 t7, el 25 false 1 t24, em 26 t4, eb 27 .leq t25 t26, em 28 t27, .og 29 28 false (.fa 0 0 t7), .og 30 28 false (.ld false 1 t29), .og 31 28 false (.bin .gtr t30 (ci 999999)), .o 32 (.pick t28 ct t31), em 33 t32, .og 34 33 false (.fa 1 1 t7), .og 35 33 false (.ld false 1 t34), .og 36 33 false (.bin .lss t35 (ci 1)), .o 37 (.pick t33 ct t36), em 38 t37, .og 39 38 false (.fa 1 1 t7), .og 40 38 false (.ld false 1 t39), .og 41 38 false (.mv t5), .og 42 38 false (.bin .gtr t40 t41), .o 43 (.pick t38 ct t42)])
  (.cond t43
  (.seq (io [em 44 t6, em 2 (ci 2), em 3 t44])
  .ret)
  .skip))
  (.seq (io [ef 45 0 0 t7, el 46 false 1 t45, em 4 t46])
  (.ops [em 47 t5, ef 48 1 1 t7, el 49 false 1 t48, eb 50 .sub t47 t49, em 5 t50])))))
  (.ops [em 18 t6, eb 19 .add t18 (ci 1), em 6 t19]))))))
  (.seq (io [em 2 (ci 0), em 3 (ci 0)])
  .ret)))))))
theorem hc_r29_Check : compF Try.prog 51 Try.f7 = some (ic_r29_Check, [.t 2, .t 3]) := by kernel_rfl

theorem fn_remit_Collected : Try.prog.funcs[remit_Collected]? = some Try.f8 := Try.func8
theorem nt_remit_Collected : Try.f8.ntmps = 21 := Try.ntmps8
def ic_remit_Collected : IC := (.seq (io [em 4 (ci 0), em 5 (ci 0), em 6 cf])
  (.seq (io [em 10 t0, em 11 t1, ec 12 19 [t10, t11], em 9 t12, ex 13 0 t9, ex 14 1 t9, .o 7 (.alloc (.arr 2 1 fun _ => zi)), .n (.sto 2 t7 t13), em 8 t14])
  (.seq (.seq (io [em 15 t8, .o 16 (.un .not t15)])
  (.cond t16
  (.seq (io [em 4 (ci 0), em 5 (ci 0), em 6 cf])
  .ret)
  .skip))
  (.seq (.dops [.o 17 (.ixa 2 1 t7 (ci 0)), el 18 false 1 t17, .o 19 (.ixa 2 1 t7 (ci 1)), el 20 false 1 t19, em 4 t18, em 5 t20, em 6 ct])
  .ret))))
theorem hc_remit_Collected : compF Try.prog 21 Try.f8 = some (ic_remit_Collected, [.t 4, .t 5, .t 6]) := by kernel_rfl

theorem fn_r29_Collected : Try.prog.funcs[r29_Collected]? = some Try.f9 := Try.func9
theorem nt_r29_Collected : Try.f9.ntmps = 31 := Try.ntmps9
def ic_r29_Collected : IC := (.seq (io [em 4 (ci 0), em 5 (ci 0), em 6 cf])
  (.seq (io [em 12 t0, em 13 t1, ec 14 20 [t12, t13, (ci 1)], em 11 t14, ex 15 0 t11, ex 16 1 t11, em 7 t15, em 8 t16])
  (.seq (io [em 18 t0, em 19 t1, ec 20 20 [t18, t19, (ci 2)], em 17 t20, ex 21 0 t17, ex 22 1 t17, em 9 t21, em 10 t22])
  (.seq (.seq (io [em 23 t8, .o 24 (.un .not t23), em 25 t24, .og 26 25 false (.mv t10), .og 27 25 false (.un .not t26), .o 28 (.pick t25 ct t27)])
  (.cond t28
  (.seq (io [em 4 (ci 0), em 5 (ci 0), em 6 cf])
  .ret)
  .skip))
  (.seq (io [em 29 t7, em 30 t9, em 4 t29, em 5 t30, em 6 ct])
  .ret)))))
theorem hc_r29_Collected : compF Try.prog 31 Try.f9 = some (ic_r29_Collected, [.t 4, .t 5, .t 6]) := by kernel_rfl

theorem fn_remit_Due : Try.prog.funcs[remit_Due]? = some Try.f10 := Try.func10
theorem nt_remit_Due : Try.f10.ntmps = 45 := Try.ntmps10
def ic_remit_Due : IC := (.seq (io [em 8 (.c (.slice none 0 0)), em 9 (ci 0), em 10 (ci 0)])
  (.seq (.seq (io [em 16 t0, ec 17 6 [t16], em 15 t17, ex 18 0 t15, ex 19 1 t15, em 11 t18, em 12 t19])
  (.seq (io [em 20 t11, eb 21 .neq t20 (ci 0)])
  (.cond t21
  (.seq (io [em 22 t11, em 8 (.c (.slice none 0 0)), em 9 (ci 0), em 10 t22])
  .ret)
  .skip)))
  (.seq (.seq (io [em 23 t1, ec 24 21 [t23], .o 25 (.un .not t24), em 26 t25, .og 27 26 false (.mv t2), .og 28 26 false (.bin .lss t27 (ci 0)), .o 29 (.pick t26 ct t28), em 30 t29, .og 31 30 false (.mv t3), .og 32 30 false (.bin .lss t31 (ci 0)), .o 33 (.pick t30 ct t32)])
  (.cond t33
  (.seq (io [em 8 (.c (.slice none 0 0)), em 9 (ci 0), em 10 (ci 2)])
  .ret)
  .skip))
  (.seq (io [em 35 t0, em 36 t1, em 37 t2, em 38 t3, .o 39 (.build (.arr 2 1 fun _ => zi) [(0, 0, 1, t37), (1, 1, 1, t38)]), ec 40 22 [t35, t36, t39], em 34 t40, ex 41 0 t34, ex 42 1 t34, em 13 t41, em 14 t42])
  (.seq (io [em 43 t13, em 44 t14, em 8 t43, em 9 t44, em 10 (ci 0)])
  .ret)))))
theorem hc_remit_Due : compF Try.prog 45 Try.f10 = some (ic_remit_Due, [.t 8, .t 9, .t 10]) := by kernel_rfl

theorem fn_r29_Due : Try.prog.funcs[r29_Due]? = some Try.f11 := Try.func11
theorem nt_r29_Due : Try.f11.ntmps = 101 := Try.ntmps11
def ic_r29_Due : IC := (.seq (io [em 8 (.c (.slice none 0 0)), em 9 (ci 0), em 10 (ci 0)])
  (.seq (io [em 24 t0, ec 25 7 [t24], em 23 t25, ex 26 0 t23, ex 27 1 t23, em 11 t26, em 12 t27])
  (.seq (.seq (io [em 28 t11, eb 29 .neq t28 (ci 0)])
  (.cond t29
  (.seq (io [em 30 t11, em 8 (.c (.slice none 0 0)), em 9 (ci 0), em 10 t30])
  .ret)
  .skip))
  (.seq (.seq (io [em 31 t1, ec 32 23 [t31], .o 33 (.un .not t32), em 34 t33, .og 35 34 false (.mv t2), .og 36 34 false (.bin .lss t35 (ci 0)), .o 37 (.pick t34 ct t36), em 38 t37, .og 39 38 false (.mv t3), .og 40 38 false (.bin .lss t39 (ci 0)), .o 41 (.pick t38 ct t40)])
  (.cond t41
  (.seq (io [em 8 (.c (.slice none 0 0)), em 9 (ci 0), em 10 (ci 2)])
  .ret)
  .skip))
  (.seq (io [em 13 (.c (.slice none 0 0))])
  (.seq (.seq (io [em 14 (ci 0)])
  (.block 0 (.loop (.seq (.seq (io [em 42 t14, em 43 t0, .o 44 (.len t43), eb 45 .lss t42 t44])
  (.cond t45
  .skip
  (.exit 0)))
  (.seq (.block 1 (.ops [em 48 t13, em 49 t0, em 50 t14, es 51 2 t49 t50, ef 52 1 1 t51, el 53 false 1 t52, .o 54 (.bsl 1 2 zi [(0, 0, 1, t53)]), .o 55 (.app 1 8 2 t48 t54), em 13 t55]))
  (.ops [em 46 t14, eb 47 .add t46 (ci 1), em 14 t47]))))))
  (.seq (io [em 57 t3, em 58 t1, ec 59 24 [t57, t58], em 56 t59, ex 60 0 t56, ex 61 1 t56, em 15 t60, em 16 t61])
  (.seq (io [em 63 t2, em 64 t13, ec 65 25 [t63, t64], em 62 t65, ex 66 0 t62, ex 67 1 t62, em 17 t66, em 18 t67])
  (.seq (io [em 69 t3, em 70 t15, eb 71 .sub t69 t70, em 72 t13, ec 73 25 [t71, t72], em 68 t73, ex 74 0 t68, ex 75 1 t68, em 19 t74, em 20 t75])
  (.seq (io [em 21 (.c (.slice none 0 0))])
  (.seq (.seq (io [em 22 (ci 0)])
  (.block 2 (.loop (.seq (.seq (io [em 76 t22, em 77 t0, .o 78 (.len t77), eb 79 .lss t76 t78])
  (.cond t79
  .skip
  (.exit 2)))
  (.seq (.block 3 (.dops [em 82 t21, em 83 t0, em 84 t22, es 85 2 t83 t84, ef 86 0 0 t85, el 87 false 1 t86, em 88 t17, em 89 t22, es 90 1 t88 t89, el 91 false 1 t90, em 92 t19, em 93 t22, es 94 1 t92 t93, el 95 false 1 t94, .o 96 (.build (.st (zc (zc (zc .nil)))) [(0, 0, 1, t87), (1, 1, 1, t91), (2, 2, 1, t95)]), .o 97 (.bsl 3 66 (.st (zc (zc (zc .nil)))) [(0, 0, 3, t96)]), .o 98 (.app 3 24 66 t82 t97), em 21 t98]))
  (.ops [em 80 t22, eb 81 .add t80 (ci 1), em 22 t81]))))))
  (.seq (io [em 99 t21, em 100 t15, em 8 t99, em 9 t100, em 10 (ci 0)])
  .ret))))))))))))
theorem hc_r29_Due : compF Try.prog 101 Try.f11 = some (ic_r29_Due, [.t 8, .t 9, .t 10]) := by kernel_rfl

theorem fn_l29_same : Try.prog.funcs[l29_same]? = some Try.f12 := Try.func12
theorem nt_l29_same : Try.f12.ntmps = 26 := Try.ntmps12
def ic_l29_same : IC := (.seq (io [em 4 cf])
  (.seq (.seq (io [em 6 t0, .o 7 (.len t6), em 8 t1, .o 9 (.len t8), eb 10 .neq t7 t9])
  (.cond t10
  (.seq (io [em 4 cf])
  .ret)
  .skip))
  (.seq (.seq (io [em 5 (ci 0)])
  (.block 0 (.loop (.seq (.seq (io [em 11 t5, em 12 t0, .o 13 (.len t12), eb 14 .lss t11 t13])
  (.cond t14
  .skip
  (.exit 0)))
  (.seq (.block 1 (.seq (.dops [em 17 t0, em 18 t5, es 19 3 t17 t18, el 20 true 3 t19, em 21 t1, em 22 t5, es 23 3 t21 t22, el 24 true 3 t23, .o 25 (.eqs true (.st (.cons .int (.cons .int (.cons .int .nil)))) t20 t24)])
  (.cond t25
  (.seq (io [em 4 cf])
  .ret)
  .skip)))
  (.ops [em 15 t5, eb 16 .add t15 (ci 1), em 5 t16]))))))
  (.seq (io [em 4 ct])
  .ret))))
theorem hc_l29_same : compF Try.prog 26 Try.f12 = some (ic_l29_same, [.t 4]) := by kernel_rfl

theorem fn_l29_spoil : Try.prog.funcs[l29_spoil]? = some Try.f13 := Try.func13
theorem nt_l29_spoil : Try.f13.ntmps = 19 := Try.ntmps13
def ic_l29_spoil : IC := (.seq (io [em 2 (ci 0)])
  (.seq (.seq (io [em 3 (ci 0)])
  (.block 0 (.loop (.seq (.seq (io [em 5 t3, em 6 t0, .o 7 (.len t6), eb 8 .lss t5 t7])
  (.cond t8
  .skip
  (.exit 0)))
  (.seq (.block 1 (.ops [em 11 t0, em 12 t3, .o 13 (.build (.st (zc (zc (zc .nil)))) [(0, 0, 1, (ci (-9))), (1, 1, 1, (ci (-9))), (2, 2, 1, (ci (-9)))]), es 14 3 t11 t12, .n (.sto 3 t14 t13)]))
  (.ops [em 9 t3, eb 10 .add t9 (ci 1), em 3 t10]))))))
  (.seq (io [em 15 t0, .o 16 (.appz 3 24 66 (.st (zc (zc (zc .nil)))) t15 (ci 64)), em 4 t16])
  (.seq (io [em 17 t4, .o 18 (.len t17), em 2 t18])
  .ret))))
theorem hc_l29_spoil : compF Try.prog 19 Try.f13 = some (ic_l29_spoil, [.t 2]) := by kernel_rfl

theorem fn_remit_Period : Try.prog.funcs[remit_Period]? = some Try.f14 := Try.func14
theorem nt_remit_Period : Try.f14.ntmps = 124 := Try.ntmps14
def ic_remit_Period : IC := (.seq (io [em 10 (.c (.slice none 0 0)), em 11 (ci 0), em 12 (ci 0)])
  (.seq (.seq (io [em 26 t3, eb 27 .lss t26 (ci 1), em 28 t27, .og 29 28 false (.mv t4), .og 30 28 false (.bin .gtr t29 (ci 3652059)), .o 31 (.pick t28 ct t30), em 32 t31, .og 33 32 false (.mv t3), .og 34 32 false (.mv t4), .og 35 32 false (.bin .gtr t33 t34), .o 36 (.pick t32 ct t35)])
  (.cond t36
  (.seq (io [em 10 (.c (.slice none 0 0)), em 11 (ci 0), em 12 (ci 2)])
  .ret)
  .skip))
  (.seq (.seq (io [em 38 t1, ec 39 6 [t38], em 37 t39, ex 40 0 t37, ex 41 1 t37, em 13 t40, em 14 t41])
  (.seq (io [em 42 t13, eb 43 .neq t42 (ci 0)])
  (.cond t43
  (.seq (io [em 44 t13, em 10 (.c (.slice none 0 0)), em 11 (ci 0), em 12 t44])
  .ret)
  .skip)))
  (.seq (.seq (io [em 45 t2, ec 46 21 [t45], .o 47 (.un .not t46)])
  (.cond t47
  (.seq (io [em 10 (.c (.slice none 0 0)), em 11 (ci 0), em 12 (ci 2)])
  .ret)
  .skip))
  (.seq (io [em 49 t0, em 50 t3, eb 51 .sub t50 (ci 1), ec 52 19 [t49, t51], em 48 t52, ex 53 0 t48, ex 54 1 t48, .o 15 (.alloc (.arr 2 1 fun _ => zi)), .n (.sto 2 t15 t53), em 16 t54])
  (.seq (io [em 56 t0, em 57 t4, ec 58 19 [t56, t57], em 55 t58, ex 59 0 t55, ex 60 1 t55, .o 17 (.alloc (.arr 2 1 fun _ => zi)), .n (.sto 2 t17 t59), em 18 t60])
  (.seq (.seq (io [em 61 t16, .o 62 (.un .not t61), em 63 t62, .og 64 63 false (.mv t18), .og 65 63 false (.un .not t64), .o 66 (.pick t63 ct t65)])
  (.cond t66
  (.seq (io [em 10 (.c (.slice none 0 0)), em 11 (ci 0), em 12 (ci 3)])
  .ret)
  .skip))
  (.seq (.seq (io [.o 67 (.ixa 2 1 t15 (ci 0)), el 68 false 1 t67, .o 69 (.ixa 2 1 t15 (ci 1)), el 70 false 1 t69, .o 71 (.ixa 2 1 t17 (ci 0)), el 72 false 1 t71, .o 73 (.ixa 2 1 t17 (ci 1)), el 74 false 1 t73, .o 75 (.mm4 false t68 t70 t72 t74), eb 76 .lss t75 (ci 0)])
  (.cond t76
  (.seq (io [em 10 (.c (.slice none 0 0)), em 11 (ci 0), em 12 (ci 2)])
  .ret)
  .skip))
  (.seq (io [em 78 t1, em 79 t2, el 80 true 2 t15, ec 81 22 [t78, t79, t80], em 77 t81, ex 82 0 t77, ex 83 1 t77, em 19 t82, em 20 t83])
  (.seq (io [em 85 t1, em 86 t2, el 87 true 2 t17, ec 88 22 [t85, t86, t87], em 84 t88, ex 89 0 t84, ex 90 1 t84, em 21 t89, em 22 t90])
  (.seq (.seq (io [em 91 t21, .o 92 (.len t91), em 93 (ci 0)])
  (.block 0 (.loop (.seq (io [eb 94 .lss t93 t92])
  (.seq (.cond t94
  .skip
  (.exit 0))
  (.seq (.block 1 (.seq (io [em 95 t93, em 23 t95])
  (.seq (io [ec 96 26 [], em 97 (ci 0)])
  (.block 2 (.loop (.seq (io [eb 98 .lss t97 (ci 2)])
  (.seq (.cond t98
  .skip
  (.exit 2))
  (.seq (.block 3 (.seq (io [.o 99 (.ix true 2 2 t96 t97), .o 25 (.alloc (.st (zc (.cons (.val (.nilFunc)) .nil)))), .n (.sto 2 t25 t99)])
  (.dops [ef 100 1 1 t25, el 101 false 1 t100, em 102 t21, em 103 t23, es 104 3 t102 t103, .o 105 (.calv t101 [t104]), .o 106 (.nck t105), el 107 false 1 t106, ef 108 1 1 t25, el 109 false 1 t108, em 110 t19, em 111 t23, es 112 3 t110 t111, .o 113 (.calv t109 [t112]), .o 114 (.nck t113), el 115 false 1 t114, eb 116 .sub t107 t115, .o 117 (.nck t105), .n (.sto 1 t117 t116)])))
  (.ops [eb 118 .add t97 (ci 1), em 97 t118])))))))))
  (.ops [eb 119 .add t93 (ci 1), em 93 t119])))))))
  (.seq (io [em 120 t21, em 121 t22, em 122 t20, eb 123 .sub t121 t122, em 10 t120, em 11 t123, em 12 (ci 0)])
  .ret))))))))))))
theorem hc_remit_Period : compF Try.prog 124 Try.f14 = some (ic_remit_Period, [.t 10, .t 11, .t 12]) := by kernel_rfl

theorem fn_r29_Period : Try.prog.funcs[r29_Period]? = some Try.f15 := Try.func15
theorem nt_r29_Period : Try.f15.ntmps = 136 := Try.ntmps15
def ic_r29_Period : IC := (.seq (io [em 10 (.c (.slice none 0 0)), em 11 (ci 0), em 12 (ci 0)])
  (.seq (.seq (io [em 27 t3, ec 28 27 [t27], .o 29 (.un .not t28), em 30 t29, .og 31 30 false (.mv t4), .og 32 30 false (.call 27 [t31]), .og 33 30 false (.un .not t32), .o 34 (.pick t30 ct t33), em 35 t34, .og 36 35 false (.mv t3), .og 37 35 false (.mv t4), .og 38 35 false (.bin .gtr t36 t37), .o 39 (.pick t35 ct t38)])
  (.cond t39
  (.seq (io [em 10 (.c (.slice none 0 0)), em 11 (ci 0), em 12 (ci 2)])
  .ret)
  .skip))
  (.seq (io [em 41 t1, ec 42 7 [t41], em 40 t42, ex 43 0 t40, ex 44 1 t40, em 13 t43, em 14 t44])
  (.seq (.seq (io [em 45 t13, eb 46 .neq t45 (ci 0)])
  (.cond t46
  (.seq (io [em 47 t13, em 10 (.c (.slice none 0 0)), em 11 (ci 0), em 12 t47])
  .ret)
  .skip))
  (.seq (.seq (io [em 48 t2, ec 49 23 [t48], .o 50 (.un .not t49)])
  (.cond t50
  (.seq (io [em 10 (.c (.slice none 0 0)), em 11 (ci 0), em 12 (ci 2)])
  .ret)
  .skip))
  (.seq (io [em 52 t0, em 53 t3, eb 54 .sub t53 (ci 1), ec 55 9 [t52, t54], em 51 t55, ex 56 0 t51, ex 57 1 t51, ex 58 2 t51, em 15 t56, em 16 t57, em 17 t58])
  (.seq (io [em 60 t0, em 61 t4, ec 62 9 [t60, t61], em 59 t62, ex 63 0 t59, ex 64 1 t59, ex 65 2 t59, em 18 t63, em 19 t64, em 20 t65])
  (.seq (.seq (io [em 66 t17, .o 67 (.un .not t66), em 68 t67, .og 69 68 false (.mv t20), .og 70 68 false (.un .not t69), .o 71 (.pick t68 ct t70)])
  (.cond t71
  (.seq (io [em 10 (.c (.slice none 0 0)), em 11 (ci 0), em 12 (ci 3)])
  .ret)
  .skip))
  (.seq (io [em 73 t1, em 74 t2, em 75 t15, em 76 t16, ec 77 11 [t73, t74, t75, t76], em 72 t77, ex 78 0 t72, ex 79 1 t72, ex 80 2 t72, em 21 t78, em 22 t79, em 13 t80])
  (.seq (io [em 82 t1, em 83 t2, em 84 t18, em 85 t19, ec 86 11 [t82, t83, t84, t85], em 81 t86, ex 87 0 t81, ex 88 1 t81, ex 89 2 t81, em 23 t87, em 24 t88, em 25 t89])
  (.seq (.seq (io [em 90 t13, eb 91 .neq t90 (ci 0), em 92 t91, .og 93 92 false (.mv t25), .og 94 92 false (.bin .neq t93 (ci 0)), .o 95 (.pick t92 ct t94)])
  (.cond t95
  (.seq (io [em 10 (.c (.slice none 0 0)), em 11 (ci 0), em 12 (ci 2)])
  .ret)
  .skip))
  (.seq (.seq (io [em 26 (ci 0)])
  (.block 0 (.loop (.seq (.seq (io [em 96 t26, em 97 t23, .o 98 (.len t97), eb 99 .lss t96 t98])
  (.cond t99
  .skip
  (.exit 0)))
  (.seq (.block 1 (.seq (.dops [em 102 t23, em 103 t26, em 104 t23, em 105 t26, es 106 3 t104 t105, ef 107 1 1 t106, el 108 false 1 t107, em 109 t21, em 110 t26, es 111 3 t109 t110, ef 112 1 1 t111, el 113 false 1 t112, eb 114 .sub t108 t113, es 115 3 t102 t103, ef 116 1 1 t115, .n (.sto 1 t116 t114)])
  (.dops [em 117 t23, em 118 t26, em 119 t23, em 120 t26, es 121 3 t119 t120, ef 122 2 2 t121, el 123 false 1 t122, em 124 t21, em 125 t26, es 126 3 t124 t125, ef 127 2 2 t126, el 128 false 1 t127, eb 129 .sub t123 t128, es 130 3 t117 t118, ef 131 2 2 t130, .n (.sto 1 t131 t129)])))
  (.ops [em 100 t26, eb 101 .add t100 (ci 1), em 26 t101]))))))
  (.seq (io [em 132 t23, em 133 t24, em 134 t22, eb 135 .sub t133 t134, em 10 t132, em 11 t135, em 12 (ci 0)])
  .ret)))))))))))))
theorem hc_r29_Period : compF Try.prog 136 Try.f15 = some (ic_r29_Period, [.t 10, .t 11, .t 12]) := by kernel_rfl

theorem fn_l29_sameMoves : Try.prog.funcs[l29_sameMoves]? = some Try.f16 := Try.func16
theorem nt_l29_sameMoves : Try.f16.ntmps = 24 := Try.ntmps16
def ic_l29_sameMoves : IC := (.seq (io [em 4 cf])
  (.seq (io [em 7 t1, ec 8 4 [t7], em 5 t8])
  (.seq (.seq (io [em 6 (ci 0)])
  (.block 0 (.loop (.seq (.seq (io [em 9 t6, em 10 t5, .o 11 (.len t10), eb 12 .lss t9 t11])
  (.cond t12
  .skip
  (.exit 0)))
  (.seq (.block 1 (.seq (.dops [em 15 t0, em 16 t6, es 17 14 t15 t16, el 18 true 14 t17, em 19 t5, em 20 t6, es 21 14 t19 t20, el 22 true 14 t21, .o 23 (.eqs true (.st (.cons .int (.cons .int (.cons (.st (.cons (.arr 12 1 .int) .nil)) .nil)))) t18 t22)])
  (.cond t23
  (.seq (io [em 4 cf])
  .ret)
  .skip)))
  (.ops [em 13 t6, eb 14 .add t13 (ci 1), em 6 t14]))))))
  (.seq (io [em 4 ct])
  .ret))))
theorem hc_l29_sameMoves : compF Try.prog 24 Try.f16 = some (ic_l29_sameMoves, [.t 4]) := by kernel_rfl

theorem fn_l29_sameShares : Try.prog.funcs[l29_sameShares]? = some Try.f17 := Try.func17
theorem nt_l29_sameShares : Try.f17.ntmps = 24 := Try.ntmps17
def ic_l29_sameShares : IC := (.seq (io [em 4 cf])
  (.seq (io [em 7 t1, ec 8 5 [t7], em 5 t8])
  (.seq (.seq (io [em 6 (ci 0)])
  (.block 0 (.loop (.seq (.seq (io [em 9 t6, em 10 t5, .o 11 (.len t10), eb 12 .lss t9 t11])
  (.cond t12
  .skip
  (.exit 0)))
  (.seq (.block 1 (.seq (.dops [em 15 t0, em 16 t6, es 17 2 t15 t16, el 18 true 2 t17, em 19 t5, em 20 t6, es 21 2 t19 t20, el 22 true 2 t21, .o 23 (.eqs true (.st (.cons .int (.cons .int .nil))) t18 t22)])
  (.cond t23
  (.seq (io [em 4 cf])
  .ret)
  .skip)))
  (.ops [em 13 t6, eb 14 .add t13 (ci 1), em 6 t14]))))))
  (.seq (io [em 4 ct])
  .ret))))
theorem hc_l29_sameShares : compF Try.prog 24 Try.f17 = some (ic_l29_sameShares, [.t 4]) := by kernel_rfl

theorem fn_l29_anew : Try.prog.funcs[l29_anew]? = some Try.f18 := Try.func18
theorem nt_l29_anew : Try.f18.ntmps = 177 := Try.ntmps18
def ic_l29_anew : IC := (.seq (io [em 10 cf])
  (.seq (.seq (io [em 11 (ci 0)])
  (.block 0 (.loop (.seq (.seq (io [em 29 t11, em 30 t0, .o 31 (.len t30), eb 32 .lss t29 t31])
  (.cond t32
  .skip
  (.exit 0)))
  (.seq (.block 1 (.seq (io [em 35 t0, em 36 t11, em 37 t11, .o 38 (.un .neg t37), eb 39 .sub t38 (ci 1), es 40 14 t35 t36, ef 41 2 2 t40, ef 42 0 0 t41, .o 43 (.ixa 12 1 t42 (ci 2)), .n (.sto 1 t43 t39)])
  (.ops [em 44 t0, em 45 t11, em 46 t11, eb 47 .mul (ci 2) t46, .o 48 (.un .neg t47), eb 49 .sub t48 (ci 1), es 50 14 t44 t45, ef 51 2 2 t50, ef 52 0 0 t51, .o 53 (.ixa 12 1 t52 (ci 1)), .n (.sto 1 t53 t49)])))
  (.ops [em 33 t11, eb 34 .add t33 (ci 1), em 11 t34]))))))
  (.seq (.seq (io [em 12 (ci 0)])
  (.block 2 (.loop (.seq (.seq (io [em 54 t12, em 55 t1, .o 56 (.len t55), eb 57 .lss t54 t56])
  (.cond t57
  .skip
  (.exit 2)))
  (.seq (.block 3 (.ops [em 60 t1, em 61 t12, em 62 t12, eb 63 .add t62 (ci 1), em 64 t12, eb 65 .rem t64 (ci 3), eb 66 .add t65 (ci 1), .o 67 (.build (.st (zc (zc .nil))) [(0, 0, 1, t63), (1, 1, 1, t66)]), es 68 2 t60 t61, .n (.sto 2 t68 t67)]))
  (.ops [em 58 t12, eb 59 .add t58 (ci 1), em 12 t59]))))))
  (.seq (io [em 70 t1, ec 71 6 [t70], em 69 t71, ex 72 0 t69, ex 73 1 t69, em 13 t72, em 14 t73])
  (.seq (io [em 75 t1, ec 76 7 [t75], em 74 t76, ex 77 0 t74, ex 78 1 t74, em 15 t77, em 16 t78])
  (.seq (io [em 80 t0, em 81 t4, ec 82 8 [t80, t81], em 79 t82, ex 83 0 t79, ex 84 1 t79, ex 85 2 t79, em 17 t83, em 18 t84, em 19 t85])
  (.seq (io [em 87 t0, em 88 t4, ec 89 9 [t87, t88], em 86 t89, ex 90 0 t86, ex 91 1 t86, ex 92 2 t86, em 20 t90, em 21 t91, em 22 t92])
  (.seq (.seq (io [em 93 t13, em 94 t15, eb 95 .neq t93 t94, em 96 t95, .og 97 96 false (.mv t14), .og 98 96 false (.mv t16), .og 99 96 false (.bin .neq t97 t98), .o 100 (.pick t96 ct t99), em 101 t100, .og 102 101 false (.mv t17), .og 103 101 false (.mv t20), .og 104 101 false (.bin .neq t102 t103), .o 105 (.pick t101 ct t104), em 106 t105, .og 107 106 false (.mv t18), .og 108 106 false (.mv t21), .og 109 106 false (.bin .neq t107 t108), .o 110 (.pick t106 ct t109), em 111 t110, .og 112 111 false (.mv t19), .og 113 111 false (.mv t22), .og 114 111 false (.eqv true t112 t113), .o 115 (.pick t111 ct t114)])
  (.cond t115
  (.seq (io [em 10 cf])
  .ret)
  .skip))
  (.seq (io [em 117 t1, em 118 t2, ec 119 10 [t117, t118, (ci 1000), (ci 333)], em 116 t119, ex 120 0 t116, ex 121 1 t116, ex 122 2 t116, em 23 t120, em 24 t121, em 25 t122])
  (.seq (io [em 124 t1, em 125 t2, ec 126 11 [t124, t125, (ci 1000), (ci 333)], em 123 t126, ex 127 0 t123, ex 128 1 t123, ex 129 2 t123, em 26 t127, em 27 t128, em 28 t129])
  (.seq (.seq (io [em 130 t24, em 131 t27, eb 132 .neq t130 t131, em 133 t132, .og 134 133 false (.mv t25), .og 135 133 false (.mv t28), .og 136 133 false (.bin .neq t134 t135), .o 137 (.pick t133 ct t136), em 138 t137, .og 139 138 false (.mv t23), .og 140 138 false (.mv t26), .og 141 138 false (.call 12 [t139, t140]), .og 142 138 false (.un .not t141), .o 143 (.pick t138 ct t142)])
  (.cond t143
  (.seq (io [em 10 cf])
  .ret)
  .skip))
  (.seq (io [em 145 t0, em 146 t1, em 147 t2, em 148 t3, em 149 t4, ec 150 14 [t145, t146, t147, t148, t149], em 144 t150, ex 151 0 t144, ex 152 1 t144, ex 153 2 t144, em 23 t151, em 24 t152, em 25 t153])
  (.seq (io [em 155 t0, em 156 t1, em 157 t2, em 158 t3, em 159 t4, ec 160 15 [t155, t156, t157, t158, t159], em 154 t160, ex 161 0 t154, ex 162 1 t154, ex 163 2 t154, em 26 t161, em 27 t162, em 28 t163])
  (.seq (io [em 164 t24, em 165 t27, eb 166 .eql t164 t165, em 167 t166, .og 168 167 true (.mv t25), .og 169 167 true (.mv t28), .og 170 167 true (.bin .eql t168 t169), .o 171 (.pick t167 t170 cf), em 172 t171, .og 173 172 true (.mv t23), .og 174 172 true (.mv t26), .og 175 172 true (.call 12 [t173, t174]), .o 176 (.pick t172 t175 cf), em 10 t176])
  .ret))))))))))))))
theorem hc_l29_anew : compF Try.prog 177 Try.f18 = some (ic_l29_anew, [.t 10]) := by kernel_rfl

theorem fn_remit_collected : Try.prog.funcs[remit_collected]? = some Try.f19 := Try.func19
theorem nt_remit_collected : Try.f19.ntmps = 67 := Try.ntmps19
def ic_remit_collected : IC := (.seq (io [.o 4 (.alloc (.arr 2 1 fun _ => zi)), em 5 cf])
  (.seq (io [em 5 ct])
  (.seq (.seq (io [em 12 (ci 0)])
  (.block 0 (.loop (.seq (io [eb 13 .lss t12 (ci 2)])
  (.seq (.cond t13
  .skip
  (.exit 0))
  (.seq (.block 1 (.seq (io [em 14 t12, em 6 t14])
  (.seq (io [em 7 (.c (.slice none 0 0))])
  (.seq (.seq (io [em 15 t0, .o 16 (.len t15), em 17 (ci 0)])
  (.block 2 (.loop (.seq (io [eb 18 .lss t17 t16])
  (.seq (.cond t18
  .skip
  (.exit 2))
  (.seq (.block 3 (.seq (io [es 19 14 t15 t17, el 20 true 14 t19, .o 9 (.alloc (.st (zc (zc (.cons (.st (.cons (.arr 12 1 fun _ => zi) .nil)) .nil))))), .n (.sto 14 t9 t20)])
  (.seq (io [ef 21 1 1 t9, el 22 false 1 t21, eb 23 .eql t22 (ci 2), em 24 t23, .og 25 24 false (.fa 1 1 t9), .og 26 24 false (.ld false 1 t25), .og 27 24 false (.bin .eql t26 (ci 3)), .o 28 (.pick t24 ct t27), em 29 t28, .og 30 29 true (.fa 0 0 t9), .og 31 29 true (.ld false 1 t30), .og 32 29 true (.mv t1), .og 33 29 true (.bin .leq t31 t32), .o 34 (.pick t29 t33 cf)])
  (.cond t34
  (.ops [em 35 t7, ec 36 26 [], em 37 t6, .o 38 (.ix true 2 2 t36 t37), .o 39 (.fld false 1 0 0 t38), ef 40 2 2 t9, ef 41 0 0 t40, .o 42 (.ixa 12 1 t41 t39), el 43 false 1 t42, .o 44 (.un .xor t43), .o 45 (.bsl 1 2 zi [(0, 0, 1, t44)]), .o 46 (.app 1 8 2 t35 t45), em 7 t46])
  .skip))))
  (.ops [eb 47 .add t17 (ci 1), em 17 t47])))))))
  (.seq (io [em 49 t7, em 50 t7, .o 51 (.len t50), .o 52 (.bsl 1 2 zi [(0, 0, 1, t51)]), .o 53 (.app 1 8 2 t49 t52), ec 54 28 [t53], em 48 t54, ex 55 0 t48, ex 56 1 t48, em 10 t55, em 11 t56])
  (.ops [em 57 t6, em 58 t10, em 59 t5, em 60 t59, .og 61 60 true (.mv t11), .o 62 (.pick t60 t61 cf), .o 63 (.ixa 2 1 t4 t57), .n (.sto 1 t63 t58), em 5 t62]))))))
  (.ops [eb 64 .add t12 (ci 1), em 12 t64])))))))
  (.seq (io [el 65 true 2 t4, em 66 t5, .n (.sto 2 t4 t65), em 5 t66])
  .ret))))
theorem hc_remit_collected : compF Try.prog 67 Try.f19 = some (ic_remit_collected, [.c 4 true 2, .t 5]) := by kernel_rfl

theorem fn_r29_lowered : Try.prog.funcs[r29_lowered]? = some Try.f20 := Try.func20
theorem nt_r29_lowered : Try.f20.ntmps = 48 := Try.ntmps20
def ic_r29_lowered : IC := (.seq (io [em 6 (ci 0), em 7 cf])
  (.seq (io [em 8 (.c (.slice none 0 0))])
  (.seq (.seq (io [em 9 (ci 0)])
  (.block 0 (.loop (.seq (.seq (io [em 11 t9, em 12 t0, .o 13 (.len t12), eb 14 .lss t11 t13])
  (.cond t14
  .skip
  (.exit 0)))
  (.seq (.block 1 (.seq (io [em 17 t0, em 18 t9, es 19 14 t17 t18, el 20 true 14 t19, .o 10 (.alloc (.st (zc (zc (.cons (.st (.cons (.arr 12 1 fun _ => zi) .nil)) .nil))))), .n (.sto 14 t10 t20)])
  (.seq (io [ef 21 1 1 t10, el 22 false 1 t21, eb 23 .eql t22 (ci 2), em 24 t23, .og 25 24 false (.fa 1 1 t10), .og 26 24 false (.ld false 1 t25), .og 27 24 false (.bin .eql t26 (ci 3)), .o 28 (.pick t24 ct t27), em 29 t28, .og 30 29 true (.fa 0 0 t10), .og 31 29 true (.ld false 1 t30), .og 32 29 true (.mv t1), .og 33 29 true (.bin .leq t31 t32), .o 34 (.pick t29 t33 cf)])
  (.cond t34
  (.ops [em 35 t8, em 36 t2, ef 37 2 2 t10, ef 38 0 0 t37, .o 39 (.ixa 12 1 t38 t36), el 40 false 1 t39, eb 41 .sub (ci (-1)) t40, .o 42 (.bsl 1 2 zi [(0, 0, 1, t41), (1, 1, 1, (ci 1))]), .o 43 (.app 1 8 2 t35 t42), em 8 t43])
  .skip))))
  (.ops [em 15 t9, eb 16 .add t15 (ci 1), em 9 t16]))))))
  (.seq (io [em 44 t8, ec 45 29 [t44], ex 46 0 t45, ex 47 1 t45, em 6 t46, em 7 t47])
  .ret))))
theorem hc_r29_lowered : compF Try.prog 48 Try.f20 = some (ic_r29_lowered, [.t 6, .t 7]) := by kernel_rfl

theorem fn_remit_isRate : Try.prog.funcs[remit_isRate]? = some Try.f21 := Try.func21
theorem nt_remit_isRate : Try.f21.ntmps = 9 := Try.ntmps21
def ic_remit_isRate : IC := (.seq (io [em 2 cf])
  (.seq (io [em 3 t0, eb 4 .geq t3 (ci 0), em 5 t4, .og 6 5 true (.mv t0), .og 7 5 true (.bin .leq t6 (ci 10000)), .o 8 (.pick t5 t7 cf), em 2 t8])
  .ret))
theorem hc_remit_isRate : compF Try.prog 9 Try.f21 = some (ic_remit_isRate, [.t 2]) := by kernel_rfl

theorem fn_remit_due : Try.prog.funcs[remit_due]? = some Try.f22 := Try.func22
theorem nt_remit_due : Try.f22.ntmps = 89 := Try.ntmps22
def ic_remit_due : IC := (.seq (io [.o 5 (.box t2), em 6 (.c (.slice none 0 0)), em 7 (ci 0)])
  (.seq (io [.o 20 (.ixa 2 1 t5 (ci 1)), el 21 false 1 t20, em 22 t1, ec 23 30 [t21, t22], em 19 t23, ex 24 0 t19, ex 25 1 t19, em 8 t24, em 9 t25])
  (.seq (io [.o 26 (.ixa 2 1 t5 (ci 1)), el 27 false 1 t26, em 28 t8, eb 29 .sub t27 t28, .o 30 (.ixa 2 1 t5 (ci 1)), .n (.sto 1 t30 t29)])
  (.seq (io [em 31 t0, .o 32 (.len t31), .o 33 (.mks 1 8 2 zi t32 t32), em 10 t33])
  (.seq (io [em 34 t0, .o 35 (.len t34), .o 36 (.mks 3 24 66 (.st (zc (zc (zc .nil)))) t35 t35), em 11 t36])
  (.seq (.seq (io [em 37 t0, .o 38 (.len t37), em 39 (ci 0)])
  (.block 0 (.loop (.seq (io [eb 40 .lss t39 t38])
  (.seq (.cond t40
  .skip
  (.exit 0))
  (.seq (.block 1 (.seq (io [em 41 t39, es 42 2 t37 t39, el 43 true 2 t42, .o 13 (.alloc (.st (zc (zc .nil)))), em 12 t41, .n (.sto 2 t13 t43)])
  (.seq (io [em 44 t10, em 45 t12, ef 46 1 1 t13, el 47 false 1 t46, es 48 1 t44 t45, .n (.sto 1 t48 t47)])
  (.ops [em 49 t11, em 50 t12, ef 51 0 0 t13, el 52 false 1 t51, es 53 3 t49 t50, ef 54 0 0 t53, .n (.sto 1 t54 t52)]))))
  (.ops [eb 55 .add t39 (ci 1), em 39 t55])))))))
  (.seq (.seq (io [ec 56 26 [], em 57 (ci 0)])
  (.block 2 (.loop (.seq (io [eb 58 .lss t57 (ci 2)])
  (.seq (.cond t58
  .skip
  (.exit 2))
  (.seq (.block 3 (.seq (io [em 59 t57, .o 60 (.ix true 2 2 t56 t57), .o 15 (.alloc (.st (zc (.cons (.val (.nilFunc)) .nil)))), em 14 t59, .n (.sto 2 t15 t60)])
  (.seq (io [em 62 t14, .o 63 (.ixa 2 1 t5 t62), el 64 false 1 t63, em 65 t10, ec 66 31 [t64, t65], em 61 t66, ex 67 0 t61, ex 68 1 t61, em 16 t67, em 17 t68])
  (.seq (io [em 69 t11, .o 70 (.len t69), em 71 (ci 0)])
  (.block 4 (.loop (.seq (io [eb 72 .lss t71 t70])
  (.seq (.cond t72
  .skip
  (.exit 4))
  (.seq (.block 5 (.seq (io [em 73 t71, em 18 t73])
  (.dops [ef 74 1 1 t15, el 75 false 1 t74, em 76 t11, em 77 t18, es 78 3 t76 t77, .o 79 (.calv t75 [t78]), em 80 t16, em 81 t18, es 82 1 t80 t81, el 83 false 1 t82, .o 84 (.nck t79), .n (.sto 1 t84 t83)])))
  (.ops [eb 85 .add t71 (ci 1), em 71 t85]))))))))))
  (.ops [eb 86 .add t57 (ci 1), em 57 t86])))))))
  (.seq (io [em 87 t11, em 88 t8, em 6 t87, em 7 t88])
  .ret))))))))
theorem hc_remit_due : compF Try.prog 89 Try.f22 = some (ic_remit_due, [.t 6, .t 7]) := by kernel_rfl

theorem fn_r29_isRate : Try.prog.funcs[r29_isRate]? = some Try.f23 := Try.func23
theorem nt_r29_isRate : Try.f23.ntmps = 9 := Try.ntmps23
def ic_r29_isRate : IC := (.seq (io [em 2 cf])
  (.seq (io [em 3 t0, eb 4 .geq t3 (ci 0), em 5 t4, .og 6 5 true (.mv t0), .og 7 5 true (.bin .leq t6 (ci 10000)), .o 8 (.pick t5 t7 cf), em 2 t8])
  .ret))
theorem hc_r29_isRate : compF Try.prog 9 Try.f23 = some (ic_r29_isRate, [.t 2]) := by kernel_rfl

theorem fn_r1_Bps : Try.prog.funcs[r1_Bps]? = some Try.f24 := Try.func24
theorem nt_r1_Bps : Try.f24.ntmps = 11 := Try.ntmps24
def ic_r1_Bps : IC := (.seq (io [em 4 (ci 0), em 5 cf])
  (.seq (io [em 6 t0, em 7 t1, ec 8 32 [t6, t7, (ci 10000)], ex 9 0 t8, ex 10 1 t8, em 4 t9, em 5 t10])
  .ret))
theorem hc_r1_Bps : compF Try.prog 11 Try.f24 = some (ic_r1_Bps, [.t 4, .t 5]) := by kernel_rfl

theorem fn_r1_Split : Try.prog.funcs[r1_Split]? = some Try.f25 := Try.func25
theorem nt_r1_Split : Try.f25.ntmps = 88 := Try.ntmps25
def ic_r1_Split : IC := (.seq (io [em 4 (.c (.slice none 0 0)), em 5 cf])
  (.seq (io [em 19 t0, em 20 t1, ec 21 33 [t19, t20], em 18 t21, ex 22 0 t18, ex 23 1 t18, em 6 t22, em 7 t23])
  (.seq (.seq (io [em 24 t7, .o 25 (.un .not t24)])
  (.cond t25
  (.seq (io [em 4 (.c (.slice none 0 0)), em 5 cf])
  .ret)
  .skip))
  (.seq (io [em 8 (.c (.slice none 0 0)), em 9 (.c (.slice none 0 0))])
  (.seq (io [em 26 t0, em 10 t26])
  (.seq (.seq (io [em 11 (ci 0)])
  (.block 0 (.loop (.seq (.seq (io [em 27 t11, em 28 t1, .o 29 (.len t28), eb 30 .lss t27 t29])
  (.cond t30
  .skip
  (.exit 0)))
  (.seq (.block 1 (.seq (io [em 34 t0, em 35 t1, em 36 t11, es 37 1 t35 t36, el 38 false 1 t37, em 39 t6, ec 40 34 [t34, t38, t39], em 33 t40, ex 41 0 t33, ex 42 1 t33, ex 43 2 t33, em 12 t41, em 13 t42, em 14 t43])
  (.seq (io [em 44 t8, em 45 t12, .o 46 (.bsl 1 2 zi [(0, 0, 1, t45)]), .o 47 (.app 1 8 2 t44 t46), em 8 t47])
  (.seq (io [em 48 t9, em 49 t13, .o 50 (.bsl 1 2 zi [(0, 0, 1, t49)]), .o 51 (.app 1 8 2 t48 t50), em 9 t51])
  (.ops [em 52 t10, em 53 t12, eb 54 .sub t52 t53, em 10 t54])))))
  (.ops [em 31 t11, eb 32 .add t31 (ci 1), em 11 t32]))))))
  (.seq (.seq (io [em 15 (ci 0)])
  (.block 2 (.loop (.seq (.seq (io [em 55 t15, em 56 t10, eb 57 .lss t55 t56])
  (.cond t57
  .skip
  (.exit 2)))
  (.seq (.block 3 (.seq (io [em 16 (ci 0)])
  (.seq (.seq (io [em 17 (ci 1)])
  (.block 4 (.loop (.seq (.seq (io [em 60 t17, em 61 t9, .o 62 (.len t61), eb 63 .lss t60 t62])
  (.cond t63
  .skip
  (.exit 4)))
  (.seq (.block 5 (.seq (.dops [em 66 t9, em 67 t17, es 68 1 t66 t67, el 69 false 1 t68, em 70 t9, em 71 t16, es 72 1 t70 t71, el 73 false 1 t72, eb 74 .gtr t69 t73])
  (.cond t74
  (.ops [em 75 t17, em 16 t75])
  .skip)))
  (.ops [em 64 t17, eb 65 .add t64 (ci 1), em 17 t65]))))))
  (.seq (io [em 76 t8, em 77 t16, em 78 t8, em 79 t16, es 80 1 t78 t79, el 81 false 1 t80, eb 82 .add t81 (ci 1), es 83 1 t76 t77, .n (.sto 1 t83 t82)])
  (.ops [em 84 t9, em 85 t16, es 86 1 t84 t85, .n (.sto 1 t86 (ci (-1)))])))))
  (.ops [em 58 t15, eb 59 .add t58 (ci 1), em 15 t59]))))))
  (.seq (io [em 87 t8, em 4 t87, em 5 ct])
  .ret))))))))
theorem hc_r1_Split : compF Try.prog 88 Try.f25 = some (ic_r1_Split, [.t 4, .t 5]) := by kernel_rfl

theorem fn_remit_columns : Try.prog.funcs[remit_columns]? = some Try.f26 := Try.func26
theorem nt_remit_columns : Try.f26.ntmps = 4 := Try.ntmps26
def ic_remit_columns : IC := (.seq (io [.o 0 (.alloc (.arr 2 2 fun _ => (.st (zc (.cons (.val (.nilFunc)) .nil)))))])
  (.seq (io [.o 1 (.build (.st (zc (.cons (.val (.nilFunc)) .nil))) [(0, 0, 1, (ci 1)), (1, 1, 1, (.f 35))]), .o 2 (.build (.st (zc (.cons (.val (.nilFunc)) .nil))) [(0, 0, 1, (ci 2)), (1, 1, 1, (.f 36))]), .o 3 (.build (.arr 2 2 fun _ => (.st (zc (.cons (.val (.nilFunc)) .nil)))) [(0, 0, 2, t1), (1, 2, 2, t2)]), .n (.sto 4 t0 t3)])
  .ret))
theorem hc_remit_columns : compF Try.prog 4 Try.f26 = some (ic_remit_columns, [.c 0 true 4]) := by kernel_rfl

theorem fn_r29_isDay : Try.prog.funcs[r29_isDay]? = some Try.f27 := Try.func27
theorem nt_r29_isDay : Try.f27.ntmps = 9 := Try.ntmps27
def ic_r29_isDay : IC := (.seq (io [em 2 cf])
  (.seq (io [em 3 t0, eb 4 .geq t3 (ci 1), em 5 t4, .og 6 5 true (.mv t0), .og 7 5 true (.bin .leq t6 (ci 3652059)), .o 8 (.pick t5 t7 cf), em 2 t8])
  .ret))
theorem hc_r29_isDay : compF Try.prog 9 Try.f27 = some (ic_r29_isDay, [.t 2]) := by kernel_rfl

theorem fn_arrears_money_Sum_int64_ : Try.prog.funcs[arrears_money_Sum_int64_]? = some Try.f28 := Try.func28
theorem nt_arrears_money_Sum_int64_ : Try.f28.ntmps = 46 := Try.ntmps28
def ic_arrears_money_Sum_int64_ : IC := (.seq (io [em 2 (ci 0), em 3 cf])
  (.seq (io [em 4 (.c (.int .u64 0)), em 5 (.c (.int .u64 0))])
  (.seq (.seq (io [em 9 t0, .o 10 (.len t9), em 11 (ci 0)])
  (.block 0 (.loop (.seq (io [eb 12 .lss t11 t10])
  (.seq (.cond t12
  .skip
  (.exit 0))
  (.seq (.block 1 (.seq (io [es 13 1 t9 t11, el 14 false 1 t13, em 7 t14])
  (.seq (io [em 8 (.c (.int .u64 0))])
  (.seq (io [em 16 t5, em 17 t7, .o 18 (.conv .u64 t17), .o 19 (.xcall 37 [t16, t18, (.c (.int .u64 0))]), em 15 t19, ex 20 0 t15, ex 21 1 t15, em 5 t20, em 8 t21])
  (.seq (io [em 22 t4, em 23 t8, eb 24 .add t22 t23, em 4 t24])
  (.seq (io [em 25 t7, eb 26 .lss t25 (ci 0)])
  (.cond t26
  (.ops [em 27 t4, eb 28 .sub t27 (.c (.int .u64 1)), em 4 t28])
  .skip)))))))
  (.ops [eb 29 .add t11 (ci 1), em 11 t29])))))))
  (.seq (.seq (io [em 30 t4, eb 31 .eql t30 (.c (.int .u64 0)), em 32 t31, .og 33 32 true (.mv t5), .og 34 32 true (.bin .leq t33 (.c (.int .u64 9223372036854775807))), .o 35 (.pick t32 t34 cf), em 36 t35, .og 37 36 false (.mv t4), .og 38 36 false (.bin .eql t37 (.c (.int .u64 18446744073709551615))), .og 39 36 false (.mv t38), .og 40 39 true (.mv t5), .og 41 39 true (.bin .geq t40 (.c (.int .u64 9223372036854775808))), .og 42 36 false (.pick t39 t41 cf), .o 43 (.pick t36 ct t42)])
  (.cond t43
  (.seq (io [em 44 t5, .o 45 (.conv .i64 t44), em 2 t45, em 3 ct])
  .ret)
  .skip))
  (.seq (io [em 2 (ci 0), em 3 cf])
  .ret)))))
theorem hc_arrears_money_Sum_int64_ : compF Try.prog 46 Try.f28 = some (ic_arrears_money_Sum_int64_, [.t 2, .t 3]) := by kernel_rfl

theorem fn_r1_Sum : Try.prog.funcs[r1_Sum]? = some Try.f29 := Try.func29
theorem nt_r1_Sum : Try.f29.ntmps = 32 := Try.ntmps29
def ic_r1_Sum : IC := (.seq (io [em 2 (ci 0), em 3 cf])
  (.seq (io [em 4 (ci 0), em 5 (ci 0)])
  (.seq (.seq (io [em 6 (ci 0)])
  (.block 0 (.loop (.seq (.seq (io [em 7 t6, em 8 t0, .o 9 (.len t8), eb 10 .lss t7 t9])
  (.cond t10
  .skip
  (.exit 0)))
  (.seq (.block 1 (.seq (io [em 13 t4, em 14 t0, em 15 t6, es 16 1 t14 t15, el 17 false 1 t16, ec 18 38 [t17], eb 19 .add t13 t18, em 4 t19])
  (.ops [em 20 t5, em 21 t0, em 22 t6, es 23 1 t21 t22, el 24 false 1 t23, ec 25 39 [t24], eb 26 .add t20 t25, em 5 t26])))
  (.ops [em 11 t6, eb 12 .add t11 (ci 1), em 6 t12]))))))
  (.seq (io [em 27 t4, em 28 t5, ec 29 40 [t27, t28], ex 30 0 t29, ex 31 1 t29, em 2 t30, em 3 t31])
  .ret))))
theorem hc_r1_Sum : compF Try.prog 32 Try.f29 = some (ic_r1_Sum, [.t 2, .t 3]) := by kernel_rfl

theorem fn_money_Bps : Try.prog.funcs[money_Bps]? = some Try.f30 := Try.func30
theorem nt_money_Bps : Try.f30.ntmps = 11 := Try.ntmps30
def ic_money_Bps : IC := (.seq (io [em 4 (ci 0), em 5 cf])
  (.seq (io [em 6 t0, em 7 t1, ec 8 41 [t6, t7, (ci 10000)], ex 9 0 t8, ex 10 1 t8, em 4 t9, em 5 t10])
  .ret))
theorem hc_money_Bps : compF Try.prog 11 Try.f30 = some (ic_money_Bps, [.t 4, .t 5]) := by kernel_rfl

theorem fn_money_Split : Try.prog.funcs[money_Split]? = some Try.f31 := Try.func31
theorem nt_money_Split : Try.f31.ntmps = 88 := Try.ntmps31
def ic_money_Split : IC := (.seq (io [em 4 (.c (.slice none 0 0)), em 5 cf])
  (.seq (io [em 17 t0, em 18 t1, ec 19 42 [t17, t18], em 16 t19, ex 20 0 t16, ex 21 1 t16, em 6 t20, em 7 t21])
  (.seq (.seq (io [em 22 t7, .o 23 (.un .not t22)])
  (.cond t23
  (.seq (io [em 4 (.c (.slice none 0 0)), em 5 cf])
  .ret)
  .skip))
  (.seq (io [em 24 t1, .o 25 (.len t24), .o 26 (.mks 1 8 2 zi t25 t25), em 8 t26])
  (.seq (io [em 27 t1, .o 28 (.len t27), .o 29 (.mks 1 8 2 zi t28 t28), em 9 t29])
  (.seq (io [em 30 t0, em 10 t30])
  (.seq (.seq (io [em 31 t1, .o 32 (.len t31), em 33 (ci 0)])
  (.block 0 (.loop (.seq (io [eb 34 .lss t33 t32])
  (.seq (.cond t34
  .skip
  (.exit 0))
  (.seq (.block 1 (.seq (io [em 35 t33, es 36 1 t31 t33, el 37 false 1 t36, em 11 t35, em 12 t37])
  (.seq (io [em 39 t8, em 40 t11, em 41 t9, em 42 t11, em 43 t0, em 44 t12, em 45 t6, ec 46 43 [t43, t44, t45], em 38 t46, ex 47 0 t38, ex 48 1 t38, ex 49 2 t38, es 50 1 t39 t40, .n (.sto 1 t50 t47), es 51 1 t41 t42, .n (.sto 1 t51 t48)])
  (.ops [em 52 t10, em 53 t8, em 54 t11, es 55 1 t53 t54, el 56 false 1 t55, eb 57 .sub t52 t56, em 10 t57]))))
  (.ops [eb 58 .add t33 (ci 1), em 33 t58])))))))
  (.seq (.block 2 (.loop (.seq (.seq (io [em 59 t10, eb 60 .gtr t59 (ci 0)])
  (.cond t60
  .skip
  (.exit 2)))
  (.seq (.block 3 (.seq (io [em 13 (ci 0)])
  (.seq (.seq (io [em 63 t9, .o 64 (.len t63), em 65 (ci 0)])
  (.block 4 (.loop (.seq (io [eb 66 .lss t65 t64])
  (.seq (.cond t66
  .skip
  (.exit 4))
  (.seq (.block 5 (.seq (io [em 67 t65, es 68 1 t63 t65, el 69 false 1 t68, em 14 t67, em 15 t69])
  (.seq (io [em 70 t15, em 71 t9, em 72 t13, es 73 1 t71 t72, el 74 false 1 t73, eb 75 .gtr t70 t74])
  (.cond t75
  (.ops [em 76 t14, em 13 t76])
  .skip))))
  (.ops [eb 77 .add t65 (ci 1), em 65 t77])))))))
  (.seq (io [em 78 t8, em 79 t13, es 80 1 t78 t79, el 81 false 1 t80, eb 82 .add t81 (ci 1), es 83 1 t78 t79, .n (.sto 1 t83 t82)])
  (.ops [em 84 t9, em 85 t13, es 86 1 t84 t85, .n (.sto 1 t86 (ci (-1)))])))))
  (.ops [em 61 t10, eb 62 .sub t61 (ci 1), em 10 t62])))))
  (.seq (io [em 87 t8, em 4 t87, em 5 ct])
  .ret)))))))))
theorem hc_money_Split : compF Try.prog 88 Try.f31 = some (ic_money_Split, [.t 4, .t 5]) := by kernel_rfl

theorem fn_r1_MulDiv : Try.prog.funcs[r1_MulDiv]? = some Try.f32 := Try.func32
theorem nt_r1_MulDiv : Try.f32.ntmps = 61 := Try.ntmps32
def ic_r1_MulDiv : IC := (.seq (io [em 6 (ci 0), em 7 cf])
  (.seq (.seq (io [em 13 t2, eb 14 .eql t13 (ci 0)])
  (.cond t14
  (.seq (io [em 6 (ci 0), em 7 cf])
  .ret)
  .skip))
  (.seq (io [em 15 t2, ec 16 44 [t15], em 8 t16])
  (.seq (io [em 18 t0, ec 19 44 [t18], ec 20 47 [t19], em 21 t1, ec 22 44 [t21], ec 23 47 [t22], ec 24 46 [t20, t23], em 25 t8, ec 26 45 [t24, t25], em 17 t26, ex 27 0 t17, ex 28 1 t17, em 9 t27, em 10 t28])
  (.seq (io [em 29 t8, em 30 t10, eb 31 .sub t29 t30, em 11 t31])
  (.seq (.seq (io [em 32 t10, em 33 t11, eb 34 .gtr t32 t33, em 35 t34, .og 36 35 false (.mv t10), .og 37 35 false (.mv t11), .og 38 35 false (.bin .eql t36 t37), .og 39 35 false (.mv t38), .og 40 39 true (.mv t9), .og 41 39 true (.ixs 1 t40 (ci 0)), .og 42 39 true (.ld false 1 t41), .og 43 39 true (.bin .eql t42 (ci 1)), .og 44 35 false (.pick t39 t43 cf), .o 45 (.pick t35 ct t44)])
  (.cond t45
  (.ops [em 46 t9, ec 47 48 [t46], em 9 t47])
  .skip))
  (.seq (io [em 48 t0, eb 49 .lss t48 (ci 0), em 50 t1, eb 51 .lss t50 (ci 0), .o 52 (.eqv true t49 t51), em 12 t52])
  (.seq (io [em 53 t12, em 54 t2, eb 55 .lss t54 (ci 0), .o 56 (.eqv true t53 t55), em 57 t9, ec 58 49 [t56, t57], ex 59 0 t58, ex 60 1 t58, em 6 t59, em 7 t60])
  .ret))))))))
theorem hc_r1_MulDiv : compF Try.prog 61 Try.f32 = some (ic_r1_MulDiv, [.t 6, .t 7]) := by kernel_rfl

theorem fn_r1_whole : Try.prog.funcs[r1_whole]? = some Try.f33 := Try.func33
theorem nt_r1_whole : Try.f33.ntmps = 43 := Try.ntmps33
def ic_r1_whole : IC := (.seq (io [em 4 (ci 0), em 5 cf])
  (.seq (.seq (io [em 9 t0, eb 10 .lss t9 (ci 0), em 11 t10, .og 12 11 false (.mv t1), .og 13 11 false (.len t12), .og 14 11 false (.bin .eql t13 (ci 0)), .o 15 (.pick t11 ct t14), em 16 t15, .og 17 16 false (.mv t1), .og 18 16 false (.len t17), .og 19 16 false (.bin .gtr t18 (ci 1000)), .o 20 (.pick t16 ct t19)])
  (.cond t20
  (.seq (io [em 4 (ci 0), em 5 cf])
  .ret)
  .skip))
  (.seq (.seq (io [em 6 (ci 0)])
  (.block 0 (.loop (.seq (.seq (io [em 21 t6, em 22 t1, .o 23 (.len t22), eb 24 .lss t21 t23])
  (.cond t24
  .skip
  (.exit 0)))
  (.seq (.block 1 (.seq (io [em 27 t1, em 28 t6, es 29 1 t27 t28, el 30 false 1 t29, eb 31 .lss t30 (ci 0)])
  (.cond t31
  (.seq (io [em 4 (ci 0), em 5 cf])
  .ret)
  .skip)))
  (.ops [em 25 t6, eb 26 .add t25 (ci 1), em 6 t26]))))))
  (.seq (io [em 33 t1, ec 34 29 [t33], em 32 t34, ex 35 0 t32, ex 36 1 t32, em 7 t35, em 8 t36])
  (.seq (io [em 37 t7, em 38 t8, em 39 t38, .og 40 39 true (.mv t7), .og 41 39 true (.bin .gtr t40 (ci 0)), .o 42 (.pick t39 t41 cf), em 4 t37, em 5 t42])
  .ret)))))
theorem hc_r1_whole : compF Try.prog 43 Try.f33 = some (ic_r1_whole, [.t 4, .t 5]) := by kernel_rfl

theorem fn_r1_MulDivFloor : Try.prog.funcs[r1_MulDivFloor]? = some Try.f34 := Try.func34
theorem nt_r1_MulDivFloor : Try.f34.ntmps = 57 := Try.ntmps34
def ic_r1_MulDivFloor : IC := (.seq (io [em 6 (ci 0), em 7 (ci 0), em 8 cf])
  (.seq (.seq (io [em 15 t2, eb 16 .leq t15 (ci 0)])
  (.cond t16
  (.seq (io [em 6 (ci 0), em 7 (ci 0), em 8 cf])
  .ret)
  .skip))
  (.seq (io [em 17 t2, ec 18 44 [t17], em 9 t18])
  (.seq (io [em 20 t0, ec 21 44 [t20], ec 22 47 [t21], em 23 t1, ec 24 44 [t23], ec 25 47 [t24], ec 26 46 [t22, t25], em 27 t9, ec 28 45 [t26, t27], em 19 t28, ex 29 0 t19, ex 30 1 t19, em 10 t29, em 11 t30])
  (.seq (io [em 31 t0, eb 32 .lss t31 (ci 0), em 33 t1, eb 34 .lss t33 (ci 0), .o 35 (.eqv true t32 t34), em 12 t35])
  (.seq (.seq (io [em 36 t12, em 37 t36, .og 38 37 true (.mv t11), .og 39 37 true (.bin .gtr t38 (.c (.int .u64 0))), .o 40 (.pick t37 t39 cf)])
  (.cond t40
  (.seq (io [em 41 t10, ec 42 48 [t41], em 10 t42])
  (.ops [em 43 t9, em 44 t11, eb 45 .sub t43 t44, em 11 t45]))
  .skip))
  (.seq (io [em 47 t12, em 48 t10, ec 49 49 [t47, t48], em 46 t49, ex 50 0 t46, ex 51 1 t46, em 13 t50, em 14 t51])
  (.seq (.seq (io [em 52 t14, .o 53 (.un .not t52)])
  (.cond t53
  (.seq (io [em 6 (ci 0), em 7 (ci 0), em 8 cf])
  .ret)
  .skip))
  (.seq (io [em 54 t13, em 55 t11, .o 56 (.conv .i64 t55), em 6 t54, em 7 t56, em 8 ct])
  .ret)))))))))
theorem hc_r1_MulDivFloor : compF Try.prog 57 Try.f34 = some (ic_r1_MulDivFloor, [.t 6, .t 7, .t 8]) := by kernel_rfl

theorem fn_remit_columns_c1 : Try.prog.funcs[remit_columns_c1]? = some Try.f35 := Try.func35
theorem nt_remit_columns_c1 : Try.f35.ntmps = 6 := Try.ntmps35
def ic_remit_columns_c1 : IC := (.seq (io [em 2 (.c (.pointer none))])
  (.seq (io [em 3 t0, .o 4 (.nck t3), ef 5 1 1 t4, em 2 t5])
  .ret))
theorem hc_remit_columns_c1 : compF Try.prog 6 Try.f35 = some (ic_remit_columns_c1, [.t 2]) := by kernel_rfl

theorem fn_remit_columns_c2 : Try.prog.funcs[remit_columns_c2]? = some Try.f36 := Try.func36
theorem nt_remit_columns_c2 : Try.f36.ntmps = 6 := Try.ntmps36
def ic_remit_columns_c2 : IC := (.seq (io [em 2 (.c (.pointer none))])
  (.seq (io [em 3 t0, .o 4 (.nck t3), ef 5 2 2 t4, em 2 t5])
  .ret))
theorem hc_remit_columns_c2 : compF Try.prog 6 Try.f36 = some (ic_remit_columns_c2, [.t 2]) := by kernel_rfl

theorem fn_r1_high : Try.prog.funcs[r1_high]? = some Try.f38 := Try.func38
theorem nt_r1_high : Try.f38.ntmps = 5 := Try.ntmps38
def ic_r1_high : IC := (.seq (io [em 2 (ci 0)])
  (.seq (io [em 3 t0, eb 4 .shr t3 (.c (.int .u64 32)), em 2 t4])
  .ret))
theorem hc_r1_high : compF Try.prog 5 Try.f38 = some (ic_r1_high, [.t 2]) := by kernel_rfl

theorem fn_r1_lowOf : Try.prog.funcs[r1_lowOf]? = some Try.f39 := Try.func39
theorem nt_r1_lowOf : Try.f39.ntmps = 8 := Try.ntmps39
def ic_r1_lowOf : IC := (.seq (io [em 2 (ci 0)])
  (.seq (io [em 3 t0, em 4 t0, ec 5 38 [t4], eb 6 .mul t5 (ci 4294967296), eb 7 .sub t3 t6, em 2 t7])
  .ret))
theorem hc_r1_lowOf : compF Try.prog 8 Try.f39 = some (ic_r1_lowOf, [.t 2]) := by kernel_rfl

theorem fn_r1_joined : Try.prog.funcs[r1_joined]? = some Try.f40 := Try.func40
theorem nt_r1_joined : Try.f40.ntmps = 26 := Try.ntmps40
def ic_r1_joined : IC := (.seq (io [em 4 (ci 0), em 5 cf])
  (.seq (io [em 7 t1, eb 8 .shr t7 (.c (.int .u64 32)), em 6 t8])
  (.seq (io [em 9 t0, em 10 t6, eb 11 .add t9 t10, em 0 t11])
  (.seq (io [em 12 t1, em 13 t6, eb 14 .mul t13 (ci 4294967296), eb 15 .sub t12 t14, em 1 t15])
  (.seq (.seq (io [em 16 t0, eb 17 .lss t16 (ci (-2147483648)), em 18 t17, .og 19 18 false (.mv t0), .og 20 18 false (.bin .gtr t19 (ci 2147483647)), .o 21 (.pick t18 ct t20)])
  (.cond t21
  (.seq (io [em 4 (ci 0), em 5 cf])
  .ret)
  .skip))
  (.seq (io [em 22 t0, eb 23 .mul t22 (ci 4294967296), em 24 t1, eb 25 .add t23 t24, em 4 t25, em 5 ct])
  .ret))))))
theorem hc_r1_joined : compF Try.prog 26 Try.f40 = some (ic_r1_joined, [.t 4, .t 5]) := by kernel_rfl

theorem fn_money_MulDiv : Try.prog.funcs[money_MulDiv]? = some Try.f41 := Try.func41
theorem nt_money_MulDiv : Try.f41.ntmps = 72 := Try.ntmps41
def ic_money_MulDiv : IC := (.seq (io [em 6 (ci 0), em 7 cf])
  (.seq (io [em 14 t2, ec 15 50 [t14], em 8 t15])
  (.seq (io [em 17 t0, ec 18 50 [t17], em 19 t1, ec 20 50 [t19], ec 21 51 [t18, t20], em 16 t21, ex 22 0 t16, ex 23 1 t16, em 9 t22, em 10 t23])
  (.seq (.seq (io [em 24 t8, eb 25 .eql t24 (.c (.int .u64 0)), em 26 t25, .og 27 26 false (.mv t9), .og 28 26 false (.mv t8), .og 29 26 false (.bin .geq t27 t28), .o 30 (.pick t26 ct t29)])
  (.cond t30
  (.seq (io [em 6 (ci 0), em 7 cf])
  .ret)
  .skip))
  (.seq (io [em 32 t9, em 33 t10, em 34 t8, ec 35 52 [t32, t33, t34], em 31 t35, ex 36 0 t31, ex 37 1 t31, em 11 t36, em 12 t37])
  (.seq (.seq (io [em 38 t12, em 39 t8, em 40 t12, eb 41 .sub t39 t40, eb 42 .gtr t38 t41, em 43 t42, .og 44 43 false (.mv t12), .og 45 43 false (.mv t8), .og 46 43 false (.mv t12), .og 47 43 false (.bin .sub t45 t46), .og 48 43 false (.bin .eql t44 t47), .og 49 43 false (.mv t48), .og 50 49 true (.mv t11), .og 51 49 true (.bin .and t50 (.c (.int .u64 1))), .og 52 49 true (.bin .eql t51 (.c (.int .u64 1))), .og 53 43 false (.pick t49 t52 cf), .o 54 (.pick t43 ct t53)])
  (.cond t54
  (.seq (io [em 55 t11, eb 56 .add t55 (.c (.int .u64 1)), em 11 t56])
  (.seq (io [em 57 t11, eb 58 .eql t57 (.c (.int .u64 0))])
  (.cond t58
  (.seq (io [em 6 (ci 0), em 7 cf])
  .ret)
  .skip)))
  .skip))
  (.seq (io [em 59 t0, eb 60 .lss t59 (ci 0), em 61 t1, eb 62 .lss t61 (ci 0), .o 63 (.eqv true t60 t62), em 13 t63])
  (.seq (io [em 64 t13, em 65 t2, eb 66 .lss t65 (ci 0), .o 67 (.eqv true t64 t66), em 68 t11, ec 69 53 [t67, t68], ex 70 0 t69, ex 71 1 t69, em 6 t70, em 7 t71])
  .ret))))))))
theorem hc_money_MulDiv : compF Try.prog 72 Try.f41 = some (ic_money_MulDiv, [.t 6, .t 7]) := by kernel_rfl

theorem fn_money_weighed : Try.prog.funcs[money_weighed]? = some Try.f42 := Try.func42
theorem nt_money_weighed : Try.f42.ntmps = 42 := Try.ntmps42
def ic_money_weighed : IC := (.seq (io [em 4 (ci 0), em 5 cf])
  (.seq (.seq (io [em 10 t0, eb 11 .lss t10 (ci 0), em 12 t11, .og 13 12 false (.mv t1), .og 14 12 false (.len t13), .og 15 12 false (.bin .lss t14 (ci 1)), .o 16 (.pick t12 ct t15), em 17 t16, .og 18 17 false (.mv t1), .og 19 17 false (.len t18), .og 20 17 false (.bin .gtr t19 (ci 1000)), .o 21 (.pick t17 ct t20)])
  (.cond t21
  (.seq (io [em 4 (ci 0), em 5 cf])
  .ret)
  .skip))
  (.seq (.seq (io [em 22 t1, .o 23 (.len t22), em 24 (ci 0)])
  (.block 0 (.loop (.seq (io [eb 25 .lss t24 t23])
  (.seq (.cond t25
  .skip
  (.exit 0))
  (.seq (.block 1 (.seq (io [es 26 1 t22 t24, el 27 false 1 t26, em 7 t27])
  (.seq (io [em 28 t7, eb 29 .lss t28 (ci 0)])
  (.cond t29
  (.seq (io [em 4 (ci 0), em 5 cf])
  .ret)
  .skip))))
  (.ops [eb 30 .add t24 (ci 1), em 24 t30])))))))
  (.seq (io [em 32 t1, ec 33 28 [t32], em 31 t33, ex 34 0 t31, ex 35 1 t31, em 8 t34, em 9 t35])
  (.seq (io [em 36 t8, em 37 t9, em 38 t37, .og 39 38 true (.mv t8), .og 40 38 true (.bin .gtr t39 (ci 0)), .o 41 (.pick t38 t40 cf), em 4 t36, em 5 t41])
  .ret)))))
theorem hc_money_weighed : compF Try.prog 42 Try.f42 = some (ic_money_weighed, [.t 4, .t 5]) := by kernel_rfl

theorem fn_money_MulDivFloor : Try.prog.funcs[money_MulDivFloor]? = some Try.f43 := Try.func43
theorem nt_money_MulDivFloor : Try.f43.ntmps = 67 := Try.ntmps43
def ic_money_MulDivFloor : IC := (.seq (io [em 6 (ci 0), em 7 (ci 0), em 8 cf])
  (.seq (.seq (io [em 17 t2, eb 18 .leq t17 (ci 0)])
  (.cond t18
  (.seq (io [em 6 (ci 0), em 7 (ci 0), em 8 cf])
  .ret)
  .skip))
  (.seq (io [em 19 t2, .o 20 (.conv .u64 t19), em 9 t20])
  (.seq (io [em 22 t0, ec 23 50 [t22], em 24 t1, ec 25 50 [t24], ec 26 51 [t23, t25], em 21 t26, ex 27 0 t21, ex 28 1 t21, em 10 t27, em 11 t28])
  (.seq (.seq (io [em 29 t10, em 30 t9, eb 31 .geq t29 t30])
  (.cond t31
  (.seq (io [em 6 (ci 0), em 7 (ci 0), em 8 cf])
  .ret)
  .skip))
  (.seq (io [em 33 t10, em 34 t11, em 35 t9, ec 36 52 [t33, t34, t35], em 32 t36, ex 37 0 t32, ex 38 1 t32, em 12 t37, em 13 t38])
  (.seq (io [em 39 t0, eb 40 .lss t39 (ci 0), em 41 t1, eb 42 .lss t41 (ci 0), .o 43 (.eqv true t40 t42), em 14 t43])
  (.seq (.seq (io [em 44 t14, em 45 t44, .og 46 45 true (.mv t13), .og 47 45 true (.bin .gtr t46 (.c (.int .u64 0))), .o 48 (.pick t45 t47 cf)])
  (.cond t48
  (.seq (io [em 49 t12, eb 50 .add t49 (.c (.int .u64 1)), em 12 t50])
  (.seq (io [em 51 t9, em 52 t13, eb 53 .sub t51 t52, em 13 t53])
  (.seq (io [em 54 t12, eb 55 .eql t54 (.c (.int .u64 0))])
  (.cond t55
  (.seq (io [em 6 (ci 0), em 7 (ci 0), em 8 cf])
  .ret)
  .skip))))
  .skip))
  (.seq (io [em 57 t14, em 58 t12, ec 59 53 [t57, t58], em 56 t59, ex 60 0 t56, ex 61 1 t56, em 15 t60, em 16 t61])
  (.seq (.seq (io [em 62 t16, .o 63 (.un .not t62)])
  (.cond t63
  (.seq (io [em 6 (ci 0), em 7 (ci 0), em 8 cf])
  .ret)
  .skip))
  (.seq (io [em 64 t15, em 65 t13, .o 66 (.conv .i64 t65), em 6 t64, em 7 t66, em 8 ct])
  .ret)))))))))))
theorem hc_money_MulDivFloor : compF Try.prog 67 Try.f43 = some (ic_money_MulDivFloor, [.t 6, .t 7, .t 8]) := by kernel_rfl

theorem fn_r1_size : Try.prog.funcs[r1_size]? = some Try.f44 := Try.func44
theorem nt_r1_size : Try.f44.ntmps = 12 := Try.ntmps44
def ic_r1_size : IC := (.seq (io [em 2 (.c (.int .u64 0))])
  (.seq (.seq (io [em 3 t0, eb 4 .lss t3 (ci 0)])
  (.cond t4
  (.seq (io [em 5 t0, eb 6 .add t5 (ci 1), .o 7 (.un .neg t6), .o 8 (.conv .u64 t7), eb 9 .add t8 (.c (.int .u64 1)), em 2 t9])
  .ret)
  .skip))
  (.seq (io [em 10 t0, .o 11 (.conv .u64 t10), em 2 t11])
  .ret)))
theorem hc_r1_size : compF Try.prog 12 Try.f44 = some (ic_r1_size, [.t 2]) := by kernel_rfl

theorem fn_r1_over : Try.prog.funcs[r1_over]? = some Try.f45 := Try.func45
theorem nt_r1_over : Try.f45.ntmps = 45 := Try.ntmps45
def ic_r1_over : IC := (.seq (io [em 4 (.c (.slice none 0 0)), em 5 (.c (.int .u64 0))])
  (.seq (io [em 6 (.c (.slice none 0 0))])
  (.seq (.seq (io [em 7 (ci 0)])
  (.block 0 (.loop (.seq (.seq (io [em 10 t7, em 11 t0, .o 12 (.len t11), eb 13 .lss t10 t12])
  (.cond t13
  .skip
  (.exit 0)))
  (.seq (.block 1 (.ops [em 16 t6, .o 17 (.bsl 1 3 zi [(0, 0, 1, (ci 0))]), .o 18 (.app 1 8 3 t16 t17), em 6 t18]))
  (.ops [em 14 t7, eb 15 .add t14 (ci 1), em 7 t15]))))))
  (.seq (io [em 8 (.c (.int .u64 0))])
  (.seq (.seq (io [em 19 t0, .o 20 (.len t19), eb 21 .sub t20 (ci 1), em 9 t21])
  (.block 2 (.loop (.seq (.seq (io [em 22 t9, eb 23 .geq t22 (ci 0)])
  (.cond t23
  .skip
  (.exit 2)))
  (.seq (.block 3 (.seq (io [em 26 t8, eb 27 .mul (.c (.int .u64 2)) t26, em 28 t0, em 29 t9, es 30 1 t28 t29, el 31 false 1 t30, .o 32 (.conv .u64 t31), eb 33 .add t27 t32, em 8 t33])
  (.seq (io [em 34 t8, em 35 t1, eb 36 .geq t34 t35])
  (.cond t36
  (.seq (io [em 37 t8, em 38 t1, eb 39 .sub t37 t38, em 8 t39])
  (.ops [em 40 t6, em 41 t9, es 42 1 t40 t41, .n (.sto 1 t42 (ci 1))]))
  .skip))))
  (.ops [em 24 t9, eb 25 .sub t24 (ci 1), em 9 t25]))))))
  (.seq (io [em 43 t6, em 44 t8, em 4 t43, em 5 t44])
  .ret))))))
theorem hc_r1_over : compF Try.prog 45 Try.f45 = some (ic_r1_over, [.t 4, .t 5]) := by kernel_rfl

theorem fn_r1_times : Try.prog.funcs[r1_times]? = some Try.f46 := Try.func46
theorem nt_r1_times : Try.f46.ntmps = 70 := Try.ntmps46
def ic_r1_times : IC := (.seq (io [em 4 (.c (.slice none 0 0))])
  (.seq (io [em 5 (.c (.slice none 0 0))])
  (.seq (.seq (io [em 6 (ci 0)])
  (.block 0 (.loop (.seq (.seq (io [em 12 t6, eb 13 .lss t12 (ci 128)])
  (.cond t13
  .skip
  (.exit 0)))
  (.seq (.block 1 (.ops [em 16 t5, .o 17 (.bsl 1 3 zi [(0, 0, 1, (ci 0))]), .o 18 (.app 1 8 3 t16 t17), em 5 t18]))
  (.ops [em 14 t6, eb 15 .add t14 (ci 1), em 6 t15]))))))
  (.seq (.seq (io [em 7 (ci 0)])
  (.block 2 (.loop (.seq (.seq (io [em 19 t7, em 20 t0, .o 21 (.len t20), eb 22 .lss t19 t21])
  (.cond t22
  .skip
  (.exit 2)))
  (.seq (.block 3 (.seq (io [em 8 (ci 0)])
  (.block 4 (.loop (.seq (.seq (io [em 25 t8, em 26 t1, .o 27 (.len t26), eb 28 .lss t25 t27])
  (.cond t28
  .skip
  (.exit 4)))
  (.seq (.block 5 (.dops [em 31 t5, em 32 t7, em 33 t8, eb 34 .add t32 t33, em 35 t5, em 36 t7, em 37 t8, eb 38 .add t36 t37, es 39 1 t35 t38, el 40 false 1 t39, em 41 t0, em 42 t7, es 43 1 t41 t42, el 44 false 1 t43, em 45 t1, em 46 t8, es 47 1 t45 t46, el 48 false 1 t47, eb 49 .mul t44 t48, eb 50 .add t40 t49, es 51 1 t31 t34, .n (.sto 1 t51 t50)]))
  (.ops [em 29 t8, eb 30 .add t29 (ci 1), em 8 t30])))))))
  (.ops [em 23 t7, eb 24 .add t23 (ci 1), em 7 t24]))))))
  (.seq (io [em 9 (ci 0)])
  (.seq (.seq (io [em 10 (ci 0)])
  (.block 6 (.loop (.seq (.seq (io [em 52 t10, eb 53 .lss t52 (ci 128)])
  (.cond t53
  .skip
  (.exit 6)))
  (.seq (.block 7 (.seq (io [em 56 t5, em 57 t10, es 58 1 t56 t57, el 59 false 1 t58, em 60 t9, eb 61 .add t59 t60, em 11 t61])
  (.seq (io [em 62 t5, em 63 t10, em 64 t11, eb 65 .rem t64 (ci 2), es 66 1 t62 t63, .n (.sto 1 t66 t65)])
  (.ops [em 67 t11, eb 68 .quo t67 (ci 2), em 9 t68]))))
  (.ops [em 54 t10, eb 55 .add t54 (ci 1), em 10 t55]))))))
  (.seq (io [em 69 t5, em 4 t69])
  .ret)))))))
theorem hc_r1_times : compF Try.prog 70 Try.f46 = some (ic_r1_times, [.t 4]) := by kernel_rfl

theorem fn_r1_digits : Try.prog.funcs[r1_digits]? = some Try.f47 := Try.func47
theorem nt_r1_digits : Try.f47.ntmps = 18 := Try.ntmps47
def ic_r1_digits : IC := (.seq (io [em 2 (.c (.slice none 0 0))])
  (.seq (io [em 3 (.c (.slice none 0 0))])
  (.seq (.seq (io [em 4 (ci 0)])
  (.block 0 (.loop (.seq (.seq (io [em 5 t4, eb 6 .lss t5 (ci 64)])
  (.cond t6
  .skip
  (.exit 0)))
  (.seq (.block 1 (.seq (io [em 9 t3, em 10 t0, eb 11 .rem t10 (.c (.int .u64 2)), .o 12 (.conv .i64 t11), .o 13 (.bsl 1 3 zi [(0, 0, 1, t12)]), .o 14 (.app 1 8 3 t9 t13), em 3 t14])
  (.ops [em 15 t0, eb 16 .quo t15 (.c (.int .u64 2)), em 0 t16])))
  (.ops [em 7 t4, eb 8 .add t7 (ci 1), em 4 t8]))))))
  (.seq (io [em 17 t3, em 2 t17])
  .ret))))
theorem hc_r1_digits : compF Try.prog 18 Try.f47 = some (ic_r1_digits, [.t 2]) := by kernel_rfl

theorem fn_r1_more : Try.prog.funcs[r1_more]? = some Try.f48 := Try.func48
theorem nt_r1_more : Try.f48.ntmps = 27 := Try.ntmps48
def ic_r1_more : IC := (.seq (io [em 2 (.c (.slice none 0 0))])
  (.seq (io [em 3 (.c (.slice none 0 0))])
  (.seq (io [em 4 (ci 1)])
  (.seq (.seq (io [em 5 (ci 0)])
  (.block 0 (.loop (.seq (.seq (io [em 7 t5, em 8 t0, .o 9 (.len t8), eb 10 .lss t7 t9])
  (.cond t10
  .skip
  (.exit 0)))
  (.seq (.block 1 (.seq (io [em 13 t0, em 14 t5, es 15 1 t13 t14, el 16 false 1 t15, em 17 t4, eb 18 .add t16 t17, em 6 t18])
  (.seq (io [em 19 t3, em 20 t6, eb 21 .rem t20 (ci 2), .o 22 (.bsl 1 3 zi [(0, 0, 1, t21)]), .o 23 (.app 1 8 3 t19 t22), em 3 t23])
  (.ops [em 24 t6, eb 25 .quo t24 (ci 2), em 4 t25]))))
  (.ops [em 11 t5, eb 12 .add t11 (ci 1), em 5 t12]))))))
  (.seq (io [em 26 t3, em 2 t26])
  .ret)))))
theorem hc_r1_more : compF Try.prog 27 Try.f48 = some (ic_r1_more, [.t 2]) := by kernel_rfl

theorem fn_r1_signed : Try.prog.funcs[r1_signed]? = some Try.f49 := Try.func49
theorem nt_r1_signed : Try.f49.ntmps = 47 := Try.ntmps49
def ic_r1_signed : IC := (.seq (io [em 4 (ci 0), em 5 cf])
  (.seq (.seq (io [em 6 (ci 64)])
  (.block 0 (.loop (.seq (.seq (io [em 9 t6, em 10 t1, .o 11 (.len t10), eb 12 .lss t9 t11])
  (.cond t12
  .skip
  (.exit 0)))
  (.seq (.block 1 (.seq (io [em 15 t1, em 16 t6, es 17 1 t15 t16, el 18 false 1 t17, eb 19 .neq t18 (ci 0)])
  (.cond t19
  (.seq (io [em 4 (ci 0), em 5 cf])
  .ret)
  .skip)))
  (.ops [em 13 t6, eb 14 .add t13 (ci 1), em 6 t14]))))))
  (.seq (io [em 7 (.c (.int .u64 0))])
  (.seq (.seq (io [em 8 (ci 63)])
  (.block 2 (.loop (.seq (.seq (io [em 20 t8, eb 21 .geq t20 (ci 0)])
  (.cond t21
  .skip
  (.exit 2)))
  (.seq (.block 3 (.ops [em 24 t7, eb 25 .mul (.c (.int .u64 2)) t24, em 26 t1, em 27 t8, es 28 1 t26 t27, el 29 false 1 t28, .o 30 (.conv .u64 t29), eb 31 .add t25 t30, em 7 t31]))
  (.ops [em 22 t8, eb 23 .sub t22 (ci 1), em 8 t23]))))))
  (.seq (.seq (io [em 32 t0, .o 33 (.un .not t32)])
  (.cond t33
  (.seq (.seq (io [em 34 t7, eb 35 .gtr t34 (.c (.int .u64 9223372036854775807))])
  (.cond t35
  (.seq (io [em 4 (ci 0), em 5 cf])
  .ret)
  .skip))
  (.seq (io [em 36 t7, .o 37 (.conv .i64 t36), em 4 t37, em 5 ct])
  .ret))
  .skip))
  (.seq (.seq (io [em 38 t7, eb 39 .gtr t38 (.c (.int .u64 9223372036854775808))])
  (.cond t39
  (.seq (io [em 4 (ci 0), em 5 cf])
  .ret)
  .skip))
  (.seq (.seq (io [em 40 t7, eb 41 .eql t40 (.c (.int .u64 0))])
  (.cond t41
  (.seq (io [em 4 (ci 0), em 5 ct])
  .ret)
  .skip))
  (.seq (io [em 42 t7, eb 43 .sub t42 (.c (.int .u64 1)), .o 44 (.conv .i64 t43), .o 45 (.un .neg t44), eb 46 .sub t45 (ci 1), em 4 t46, em 5 ct])
  .ret))))))))
theorem hc_r1_signed : compF Try.prog 47 Try.f49 = some (ic_r1_signed, [.t 4, .t 5]) := by kernel_rfl

theorem fn_money_magnitude : Try.prog.funcs[money_magnitude]? = some Try.f50 := Try.func50
theorem nt_money_magnitude : Try.f50.ntmps = 10 := Try.ntmps50
def ic_money_magnitude : IC := (.seq (io [em 2 (.c (.int .u64 0))])
  (.seq (.seq (io [em 3 t0, eb 4 .lss t3 (ci 0)])
  (.cond t4
  (.seq (io [em 5 t0, .o 6 (.conv .u64 t5), .o 7 (.un .neg t6), em 2 t7])
  .ret)
  .skip))
  (.seq (io [em 8 t0, .o 9 (.conv .u64 t8), em 2 t9])
  .ret)))
theorem hc_money_magnitude : compF Try.prog 10 Try.f50 = some (ic_money_magnitude, [.t 2]) := by kernel_rfl

theorem fn_math_bits_Mul64 : Try.prog.funcs[math_bits_Mul64]? = some Try.f51 := Try.func51
theorem nt_math_bits_Mul64 : Try.f51.ntmps = 51 := Try.ntmps51
def ic_math_bits_Mul64 : IC := (.seq (io [em 4 (.c (.int .u64 0)), em 5 (.c (.int .u64 0))])
  (.seq (io [em 14 t0, eb 15 .and t14 (.c (.int .u64 4294967295)), em 6 t15])
  (.seq (io [em 16 t0, eb 17 .shr t16 (.c (.int .u64 32)), em 7 t17])
  (.seq (io [em 18 t1, eb 19 .and t18 (.c (.int .u64 4294967295)), em 8 t19])
  (.seq (io [em 20 t1, eb 21 .shr t20 (.c (.int .u64 32)), em 9 t21])
  (.seq (io [em 22 t6, em 23 t8, eb 24 .mul t22 t23, em 10 t24])
  (.seq (io [em 25 t7, em 26 t8, eb 27 .mul t25 t26, em 28 t10, eb 29 .shr t28 (.c (.int .u64 32)), eb 30 .add t27 t29, em 11 t30])
  (.seq (io [em 31 t11, eb 32 .and t31 (.c (.int .u64 4294967295)), em 12 t32])
  (.seq (io [em 33 t11, eb 34 .shr t33 (.c (.int .u64 32)), em 13 t34])
  (.seq (io [em 35 t12, em 36 t6, em 37 t9, eb 38 .mul t36 t37, eb 39 .add t35 t38, em 12 t39])
  (.seq (io [em 40 t7, em 41 t9, eb 42 .mul t40 t41, em 43 t13, eb 44 .add t42 t43, em 45 t12, eb 46 .shr t45 (.c (.int .u64 32)), eb 47 .add t44 t46, em 4 t47])
  (.seq (io [em 48 t0, em 49 t1, eb 50 .mul t48 t49, em 5 t50])
  .ret))))))))))))
theorem hc_math_bits_Mul64 : compF Try.prog 51 Try.f51 = some (ic_math_bits_Mul64, [.t 4, .t 5]) := by kernel_rfl

theorem fn_math_bits_Div64 : Try.prog.funcs[math_bits_Div64]? = some Try.f52 := Try.func52
theorem nt_math_bits_Div64 : Try.f52.ntmps = 135 := Try.ntmps52
def ic_math_bits_Div64 : IC := (.seq (io [em 6 (.c (.int .u64 0)), em 7 (.c (.int .u64 0))])
  (.seq (.seq (io [em 19 t2, eb 20 .eql t19 (.c (.int .u64 0))])
  (.cond t20
  (.ops [el 21 false 1 (.g 0), .n (.dead)])
  .skip))
  (.seq (.seq (io [em 22 t2, em 23 t0, eb 24 .leq t22 t23])
  (.cond t24
  (.ops [el 25 false 1 (.g 1), .n (.dead)])
  .skip))
  (.seq (.seq (io [em 26 t0, eb 27 .eql t26 (.c (.int .u64 0))])
  (.cond t27
  (.seq (.dops [em 28 t1, em 29 t2, eb 30 .quo t28 t29, em 31 t1, em 32 t2, eb 33 .rem t31 t32, em 6 t30, em 7 t33])
  .ret)
  .skip))
  (.seq (io [em 34 t2, ec 35 54 [t34], .o 36 (.conv .u64 t35), em 8 t36])
  (.seq (io [em 37 t2, em 38 t8, eb 39 .shl t37 t38, em 2 t39])
  (.seq (io [em 40 t2, eb 41 .shr t40 (.c (.int .u64 32)), em 9 t41])
  (.seq (io [em 42 t2, eb 43 .and t42 (.c (.int .u64 4294967295)), em 10 t43])
  (.seq (io [em 44 t0, em 45 t8, eb 46 .shl t44 t45, em 47 t1, em 48 t8, eb 49 .sub (.c (.int .u64 64)) t48, eb 50 .shr t47 t49, eb 51 .or t46 t50, em 11 t51])
  (.seq (io [em 52 t1, em 53 t8, eb 54 .shl t52 t53, em 12 t54])
  (.seq (io [em 55 t12, eb 56 .shr t55 (.c (.int .u64 32)), em 13 t56])
  (.seq (io [em 57 t12, eb 58 .and t57 (.c (.int .u64 4294967295)), em 14 t58])
  (.seq (io [em 59 t11, em 60 t9, eb 61 .quo t59 t60, em 15 t61])
  (.seq (io [em 62 t11, em 63 t15, em 64 t9, eb 65 .mul t63 t64, eb 66 .sub t62 t65, em 16 t66])
  (.seq (.block 0 (.loop (.seq (.seq (io [em 67 t15, eb 68 .geq t67 (.c (.int .u64 4294967296)), em 69 t68, .og 70 69 false (.mv t15), .og 71 69 false (.mv t10), .og 72 69 false (.bin .mul t70 t71), .og 73 69 false (.mv t16), .og 74 69 false (.bin .mul (.c (.int .u64 4294967296)) t73), .og 75 69 false (.mv t13), .og 76 69 false (.bin .add t74 t75), .og 77 69 false (.bin .gtr t72 t76), .o 78 (.pick t69 ct t77)])
  (.cond t78
  .skip
  (.exit 0)))
  (.block 1 (.seq (io [em 79 t15, eb 80 .sub t79 (.c (.int .u64 1)), em 15 t80])
  (.seq (io [em 81 t16, em 82 t9, eb 83 .add t81 t82, em 16 t83])
  (.seq (io [em 84 t16, eb 85 .geq t84 (.c (.int .u64 4294967296))])
  (.cond t85
  (.exit 0)
  .skip))))))))
  (.seq (io [em 86 t11, eb 87 .mul t86 (.c (.int .u64 4294967296)), em 88 t13, eb 89 .add t87 t88, em 90 t15, em 91 t2, eb 92 .mul t90 t91, eb 93 .sub t89 t92, em 17 t93])
  (.seq (io [em 94 t17, em 95 t9, eb 96 .quo t94 t95, em 18 t96])
  (.seq (io [em 97 t17, em 98 t18, em 99 t9, eb 100 .mul t98 t99, eb 101 .sub t97 t100, em 16 t101])
  (.seq (.block 2 (.loop (.seq (.seq (io [em 102 t18, eb 103 .geq t102 (.c (.int .u64 4294967296)), em 104 t103, .og 105 104 false (.mv t18), .og 106 104 false (.mv t10), .og 107 104 false (.bin .mul t105 t106), .og 108 104 false (.mv t16), .og 109 104 false (.bin .mul (.c (.int .u64 4294967296)) t108), .og 110 104 false (.mv t14), .og 111 104 false (.bin .add t109 t110), .og 112 104 false (.bin .gtr t107 t111), .o 113 (.pick t104 ct t112)])
  (.cond t113
  .skip
  (.exit 2)))
  (.block 3 (.seq (io [em 114 t18, eb 115 .sub t114 (.c (.int .u64 1)), em 18 t115])
  (.seq (io [em 116 t16, em 117 t9, eb 118 .add t116 t117, em 16 t118])
  (.seq (io [em 119 t16, eb 120 .geq t119 (.c (.int .u64 4294967296))])
  (.cond t120
  (.exit 2)
  .skip))))))))
  (.seq (io [em 121 t15, eb 122 .mul t121 (.c (.int .u64 4294967296)), em 123 t18, eb 124 .add t122 t123, em 125 t17, eb 126 .mul t125 (.c (.int .u64 4294967296)), em 127 t14, eb 128 .add t126 t127, em 129 t18, em 130 t2, eb 131 .mul t129 t130, eb 132 .sub t128 t131, em 133 t8, eb 134 .shr t132 t133, em 6 t124, em 7 t134])
  .ret))))))))))))))))))))
theorem hc_math_bits_Div64 : compF Try.prog 135 Try.f52 = some (ic_math_bits_Div64, [.t 6, .t 7]) := by kernel_rfl

theorem fn_money_withSign : Try.prog.funcs[money_withSign]? = some Try.f53 := Try.func53
theorem nt_money_withSign : Try.f53.ntmps = 16 := Try.ntmps53
def ic_money_withSign : IC := (.seq (io [em 4 (ci 0), em 5 cf])
  (.seq (.seq (io [em 6 t0])
  (.cond t6
  (.seq (.seq (io [em 7 t1, eb 8 .gtr t7 (.c (.int .u64 9223372036854775808))])
  (.cond t8
  (.seq (io [em 4 (ci 0), em 5 cf])
  .ret)
  .skip))
  (.seq (io [em 9 t1, .o 10 (.un .neg t9), .o 11 (.conv .i64 t10), em 4 t11, em 5 ct])
  .ret))
  .skip))
  (.seq (.seq (io [em 12 t1, eb 13 .gtr t12 (.c (.int .u64 9223372036854775807))])
  (.cond t13
  (.seq (io [em 4 (ci 0), em 5 cf])
  .ret)
  .skip))
  (.seq (io [em 14 t1, .o 15 (.conv .i64 t14), em 4 t15, em 5 ct])
  .ret))))
theorem hc_money_withSign : compF Try.prog 16 Try.f53 = some (ic_money_withSign, [.t 4, .t 5]) := by kernel_rfl

theorem fn_math_bits_LeadingZeros64 : Try.prog.funcs[math_bits_LeadingZeros64]? = some Try.f54 := Try.func54
theorem nt_math_bits_LeadingZeros64 : Try.f54.ntmps = 6 := Try.ntmps54
def ic_math_bits_LeadingZeros64 : IC := (.seq (io [em 2 (ci 0)])
  (.seq (io [em 3 t0, ec 4 55 [t3], eb 5 .sub (ci 64) t4, em 2 t5])
  .ret))
theorem hc_math_bits_LeadingZeros64 : compF Try.prog 6 Try.f54 = some (ic_math_bits_LeadingZeros64, [.t 2]) := by kernel_rfl

theorem fn_math_bits_Len64 : Try.prog.funcs[math_bits_Len64]? = some Try.f55 := Try.func55
theorem nt_math_bits_Len64 : Try.f55.ntmps = 25 := Try.ntmps55
def ic_math_bits_Len64 : IC := (.seq (io [em 2 (ci 0)])
  (.seq (.seq (io [em 3 t0, eb 4 .geq t3 (.c (.int .u64 4294967296))])
  (.cond t4
  (.seq (io [em 5 t0, eb 6 .shr t5 (.c (.int .u64 32)), em 0 t6])
  (.ops [em 2 (ci 32)]))
  .skip))
  (.seq (.seq (io [em 7 t0, eb 8 .geq t7 (.c (.int .u64 65536))])
  (.cond t8
  (.seq (io [em 9 t0, eb 10 .shr t9 (.c (.int .u64 16)), em 0 t10])
  (.ops [em 11 t2, eb 12 .add t11 (ci 16), em 2 t12]))
  .skip))
  (.seq (.seq (io [em 13 t0, eb 14 .geq t13 (.c (.int .u64 256))])
  (.cond t14
  (.seq (io [em 15 t0, eb 16 .shr t15 (.c (.int .u64 8)), em 0 t16])
  (.ops [em 17 t2, eb 18 .add t17 (ci 8), em 2 t18]))
  .skip))
  (.seq (io [em 19 t2, em 20 t0, .o 21 (.conv .u8 t20), .o 22 (.ixb (.c (.string ⟨#[0, 1, 2, 2, 3, 3, 3, 3, 4, 4, 4, 4, 4, 4, 4, 4, 5, 5, 5, 5, 5, 5, 5, 5, 5, 5, 5, 5, 5, 5, 5, 5, 6, 6, 6, 6, 6, 6, 6, 6, 6, 6, 6, 6, 6, 6, 6, 6, 6, 6, 6, 6, 6, 6, 6, 6, 6, 6, 6, 6, 6, 6, 6, 6, 7, 7, 7, 7, 7, 7, 7, 7, 7, 7, 7, 7, 7, 7, 7, 7, 7, 7, 7, 7, 7, 7, 7, 7, 7, 7, 7, 7, 7, 7, 7, 7, 7, 7, 7, 7, 7, 7, 7, 7, 7, 7, 7, 7, 7, 7, 7, 7, 7, 7, 7, 7, 7, 7, 7, 7, 7, 7, 7, 7, 7, 7, 7, 7, 8, 8, 8, 8, 8, 8, 8, 8, 8, 8, 8, 8, 8, 8, 8, 8, 8, 8, 8, 8, 8, 8, 8, 8, 8, 8, 8, 8, 8, 8, 8, 8, 8, 8, 8, 8, 8, 8, 8, 8, 8, 8, 8, 8, 8, 8, 8, 8, 8, 8, 8, 8, 8, 8, 8, 8, 8, 8, 8, 8, 8, 8, 8, 8, 8, 8, 8, 8, 8, 8, 8, 8, 8, 8, 8, 8, 8, 8, 8, 8, 8, 8, 8, 8, 8, 8, 8, 8, 8, 8, 8, 8, 8, 8, 8, 8, 8, 8, 8, 8, 8, 8, 8, 8, 8, 8, 8, 8, 8, 8, 8, 8, 8, 8, 8, 8, 8, 8, 8, 8, 8, 8, 8, 8, 8, 8, 8, 8]⟩)) t21), .o 23 (.conv .i64 t22), eb 24 .add t19 t23, em 2 t24])
  .ret)))))
theorem hc_math_bits_Len64 : compF Try.prog 25 Try.f55 = some (ic_math_bits_Len64, [.t 2]) := by kernel_rfl

end Go.Proofs.Ytdjmplfjpnikkaa
