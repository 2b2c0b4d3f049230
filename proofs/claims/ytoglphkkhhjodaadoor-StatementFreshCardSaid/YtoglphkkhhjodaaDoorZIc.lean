/- The given functions as the walk reads them: each constant is what the program's text comes to. No condition. -/
import Derived.Test.YtoglphkkhhjodaaDoorA7
import Derived.Test.YtoglphkkhhjodaaDoorA6
import Derived.Test.YtoglphkkhhjodaaDoorA10
import Derived.Test.YtoglphkkhhjodaaDoorD1
import Derived.Test.YtoglphkkhhjodaaDoorProg
import Derived.KernelRfl
set_option linter.all false
namespace Go.Proofs.YtoglphkkhhjodaaDoor
open Go Ar
set_option linter.unusedVariables false
set_option maxRecDepth 100000

def wordL : List ByteArray := [⟨#[]⟩, ⟨#[111, 112, 101, 110]⟩, ⟨#[112, 97, 121]⟩, ⟨#[114, 101, 116, 117, 114, 110]⟩, ⟨#[114, 101, 102, 117, 110, 100]⟩, ⟨#[119, 97, 105, 118, 101]⟩, ⟨#[112, 114, 111, 109, 105, 115, 101]⟩, ⟨#[114, 101, 115, 116, 114, 117, 99, 116, 117, 114, 101]⟩, ⟨#[100, 97, 121]⟩]
def aheadL : List Int := [0, 31, 59, 90, 120, 151, 181, 212, 243, 273, 304, 334, 365]
def p10L : List Int := [1, 10, 100, 1000, 10000, 100000, 1000000, 10000000, 100000000, 1000000000, 10000000000, 100000000000, 1000000000000, 10000000000000, 100000000000000, 1000000000000000, 10000000000000000, 100000000000000000, 1000000000000000000, 10000000000000000000]
abbrev gl0 : Nat → AV := fun k => match k with
  | 0 => .elt 1 9 (fun _ => .arr 9 1 (fun i => .val (.string (at_ wordL i)))) 0 []
  | 1 => .elt 1 13 (fun _ => .arr 13 1 (fun i => I (at_ aheadL i))) 0 []
  | 2 => .elt 1 20 (fun _ => .arr 20 1 (fun i => U (at_ p10L i))) 0 []
  | _ => .any
theorem gl0n : ∀ i, nf (gl0 i) := fun i => by
  match i with
  | 0 => exact fun _ _ => trivial
  | 1 => exact fun _ _ => trivial
  | 2 => exact fun _ _ => trivial
  | _ + 3 => trivial
theorem mixed : Tryd.prog.follows .mixedOrders = true := rfl

abbrev zi : AV := .val (.int .i64 0)
abbrev zs : AV := .val (.slice none 0 0)
abbrev zc (a : AV) : AV := .cons zi a
abbrev zf (a : AV) : AV := .cons (.val (.bool false)) a
abbrev ci (n : Int) : X := .c (.int .i64 n)
abbrev cf : X := .c (.bool false)
abbrev ct : X := .c (.bool true)
abbrev em (d : Nat) (x : X) : Ent := .o d (.mv x)
abbrev eb (d : Nat) (b : BinOp) (x y : X) : Ent := .o d (.bin b x y)
abbrev el (d : Nat) (g : Bool) (n : Nat) (x : X) : Ent := .o d (.ld g n x)
abbrev ef (d k o : Nat) (x : X) : Ent := .o d (.fa k o x)
abbrev ex (d k : Nat) (x : X) : Ent := .o d (.ext k x)
abbrev es (d e : Nat) (x i : X) : Ent := .o d (.ixs e x i)
abbrev ec (d f : Nat) (l : List X) : Ent := .o d (.call f l)
abbrev ey (d f : Nat) (l : List X) : Ent := .o d (.callx f l)
abbrev io (l : List Ent) : IC := .ops l
abbrev t0 : X := .t 0
abbrev t1 : X := .t 1
abbrev t2 : X := .t 2
abbrev t3 : X := .t 3
abbrev t4 : X := .t 4
abbrev t5 : X := .t 5
abbrev t6 : X := .t 6
abbrev t7 : X := .t 7
abbrev t8 : X := .t 8
abbrev t9 : X := .t 9
abbrev t10 : X := .t 10
abbrev t11 : X := .t 11
abbrev t12 : X := .t 12
abbrev t13 : X := .t 13
abbrev t14 : X := .t 14
abbrev t15 : X := .t 15
abbrev t16 : X := .t 16
abbrev t17 : X := .t 17
abbrev t18 : X := .t 18
abbrev t19 : X := .t 19
abbrev t20 : X := .t 20
abbrev t21 : X := .t 21
abbrev t22 : X := .t 22
abbrev t23 : X := .t 23
abbrev t24 : X := .t 24
abbrev t25 : X := .t 25
abbrev t26 : X := .t 26
abbrev t27 : X := .t 27
abbrev t28 : X := .t 28
abbrev t29 : X := .t 29
abbrev t30 : X := .t 30
abbrev t31 : X := .t 31
abbrev t32 : X := .t 32
abbrev t33 : X := .t 33
abbrev t34 : X := .t 34
abbrev t35 : X := .t 35
abbrev t36 : X := .t 36
abbrev t37 : X := .t 37
abbrev t38 : X := .t 38
abbrev t39 : X := .t 39
abbrev t40 : X := .t 40
abbrev t41 : X := .t 41
abbrev t42 : X := .t 42
abbrev t43 : X := .t 43
abbrev t44 : X := .t 44
abbrev t45 : X := .t 45
abbrev t46 : X := .t 46
abbrev t47 : X := .t 47
abbrev t48 : X := .t 48
abbrev t49 : X := .t 49
abbrev t50 : X := .t 50
abbrev t51 : X := .t 51
abbrev t52 : X := .t 52
abbrev t53 : X := .t 53
abbrev t54 : X := .t 54
abbrev t55 : X := .t 55
abbrev t56 : X := .t 56
abbrev t57 : X := .t 57
abbrev t58 : X := .t 58
abbrev t59 : X := .t 59
abbrev t60 : X := .t 60
abbrev t61 : X := .t 61
abbrev t62 : X := .t 62
abbrev t63 : X := .t 63
abbrev t64 : X := .t 64
abbrev t65 : X := .t 65
abbrev t66 : X := .t 66
abbrev t67 : X := .t 67
abbrev t68 : X := .t 68
abbrev t69 : X := .t 69
abbrev t70 : X := .t 70
abbrev t71 : X := .t 71
abbrev t72 : X := .t 72
abbrev t73 : X := .t 73
abbrev t74 : X := .t 74
abbrev t75 : X := .t 75
abbrev t76 : X := .t 76
abbrev t77 : X := .t 77
abbrev t78 : X := .t 78
abbrev t79 : X := .t 79
abbrev t80 : X := .t 80
abbrev t81 : X := .t 81
abbrev t82 : X := .t 82
abbrev t83 : X := .t 83
abbrev t84 : X := .t 84
abbrev t85 : X := .t 85
abbrev t86 : X := .t 86
abbrev t87 : X := .t 87
abbrev t88 : X := .t 88
abbrev t89 : X := .t 89
abbrev t90 : X := .t 90
abbrev t91 : X := .t 91
abbrev t92 : X := .t 92
abbrev t93 : X := .t 93
abbrev t94 : X := .t 94
abbrev t95 : X := .t 95
abbrev t96 : X := .t 96
abbrev t97 : X := .t 97
abbrev t98 : X := .t 98
abbrev t99 : X := .t 99
abbrev t100 : X := .t 100
abbrev t101 : X := .t 101
abbrev t102 : X := .t 102
abbrev t103 : X := .t 103
abbrev t104 : X := .t 104
abbrev t105 : X := .t 105
abbrev t106 : X := .t 106
abbrev t107 : X := .t 107
abbrev t108 : X := .t 108
abbrev t109 : X := .t 109
abbrev t110 : X := .t 110
abbrev t111 : X := .t 111
abbrev t112 : X := .t 112
abbrev t113 : X := .t 113
abbrev t114 : X := .t 114
abbrev t115 : X := .t 115
abbrev t116 : X := .t 116
abbrev t117 : X := .t 117
abbrev t118 : X := .t 118
abbrev t119 : X := .t 119
abbrev t120 : X := .t 120
abbrev t121 : X := .t 121
abbrev t122 : X := .t 122
abbrev t123 : X := .t 123
abbrev t124 : X := .t 124
abbrev t125 : X := .t 125
abbrev t126 : X := .t 126
abbrev t127 : X := .t 127
abbrev t128 : X := .t 128
abbrev t129 : X := .t 129
abbrev t130 : X := .t 130
abbrev t131 : X := .t 131
abbrev t132 : X := .t 132
abbrev t133 : X := .t 133
abbrev t134 : X := .t 134
abbrev t135 : X := .t 135
abbrev t136 : X := .t 136
abbrev t137 : X := .t 137
abbrev t138 : X := .t 138
abbrev t139 : X := .t 139
abbrev t140 : X := .t 140
abbrev t141 : X := .t 141
abbrev t142 : X := .t 142
abbrev t143 : X := .t 143
abbrev t144 : X := .t 144
abbrev t145 : X := .t 145
abbrev t146 : X := .t 146
abbrev t147 : X := .t 147
abbrev t148 : X := .t 148
abbrev t149 : X := .t 149
abbrev t150 : X := .t 150
abbrev t151 : X := .t 151
abbrev t152 : X := .t 152
abbrev t153 : X := .t 153
abbrev t154 : X := .t 154
abbrev t155 : X := .t 155
abbrev t156 : X := .t 156
abbrev t157 : X := .t 157
abbrev t158 : X := .t 158
abbrev t159 : X := .t 159
abbrev t160 : X := .t 160
abbrev t161 : X := .t 161
abbrev t162 : X := .t 162
abbrev t163 : X := .t 163
abbrev t164 : X := .t 164
abbrev t165 : X := .t 165
abbrev t166 : X := .t 166
abbrev t167 : X := .t 167
abbrev t168 : X := .t 168
abbrev t169 : X := .t 169
abbrev t170 : X := .t 170
abbrev t171 : X := .t 171
abbrev t172 : X := .t 172
abbrev t173 : X := .t 173
abbrev t174 : X := .t 174
abbrev t175 : X := .t 175
abbrev t176 : X := .t 176
abbrev t177 : X := .t 177
abbrev t178 : X := .t 178
abbrev t179 : X := .t 179
abbrev t180 : X := .t 180
abbrev t181 : X := .t 181
abbrev t182 : X := .t 182
abbrev t183 : X := .t 183
abbrev t184 : X := .t 184
abbrev t185 : X := .t 185
abbrev t186 : X := .t 186

abbrev l22_StatementFresh : Nat := 3
abbrev l22_StatementLines : Nat := 4
abbrev l22_copied : Nat := 5
abbrev statement_Within : Nat := 6
abbrev l22_sameMoves : Nat := 7
abbrev statement_Lines : Nat := 8
abbrev l22_sameLines : Nat := 9
abbrev r22_Lines : Nat := 10
abbrev calendar_FormatDate : Nat := 11
abbrev statement_total : Nat := 12
abbrev statement_row : Nat := 13
abbrev r2_FormatDate : Nat := 14
abbrev r22_standing : Nat := 15
abbrev r22_Within : Nat := 16
abbrev r22_columns : Nat := 17
abbrev r22_word : Nat := 18
abbrev calendar_Civil : Nat := 19
abbrev calendar_put : Nat := 20
abbrev statement_Upto : Nat := 21
abbrev statement_columns : Nat := 22
abbrev r2_Civil : Nat := 23
abbrev r2_padded : Nat := 24
abbrev r22_Upto : Nat := 25
abbrev r1_Sub : Nat := 26
abbrev r22_tell : Nat := 27
abbrev calendar_start : Nat := 28
abbrev statement_wide_plus : Nat := 29
abbrev statement_wide_cents : Nat := 30
abbrev money_Format : Nat := 31
abbrev r2_isDay : Nat := 32
abbrev r2_yearLen : Nat := 33
abbrev r2_lenOf : Nat := 34
abbrev strconv_Itoa : Nat := 35
abbrev r1_Sum : Nat := 36
abbrev r1_joined : Nat := 37
abbrev r1_high : Nat := 38
abbrev r1_lowOf : Nat := 39
abbrev r1_Format : Nat := 40
abbrev calendar_Leap : Nat := 41
abbrev money_magnitude : Nat := 43
abbrev strconv_AppendUint : Nat := 44
abbrev r2_divides : Nat := 45
abbrev internal_strconv_Itoa : Nat := 46
abbrev r1_size : Nat := 47
abbrev strconv_FormatUint : Nat := 48
abbrev internal_strconv_AppendUint : Nat := 49
abbrev internal_strconv_FormatInt : Nat := 50
abbrev internal_strconv_FormatUint : Nat := 51
abbrev internal_strconv_small : Nat := 52
abbrev internal_strconv_numDigits : Nat := 53
abbrev internal_strconv_formatBase10 : Nat := 54
abbrev internal_strconv_formatBits : Nat := 55
abbrev internal_strconv_log10Pow2 : Nat := 56
abbrev math_bits_Len64 : Nat := 57
abbrev internal_strconv_bool2_int_ : Nat := 58
abbrev internal_strconv_isPowerOfTwo : Nat := 59
abbrev math_bits_TrailingZeros : Nat := 60
abbrev math_bits_TrailingZeros32 : Nat := 61
abbrev math_bits_TrailingZeros64 : Nat := 62
theorem fn_l22_StatementFresh : Tryd.prog.funcs[l22_StatementFresh]? = some Tryd.f3 := Tryd.func3
theorem nt_l22_StatementFresh : Tryd.f3.ntmps = 187 := Tryd.ntmps3
def ic_l22_StatementFresh : IC := (.seq (io [em 6 cf])
  (.seq (.seq (io [em 24 t0, .o 25 (.len t24), eb 26 .gtr t25 (ci 4000)])
  (.cond t26
  (.seq (io [em 6 ct])
  .ret)
  .skip))
  (.seq (io [em 27 t0, ec 28 5 [t27], em 7 t28])
  (.seq (io [em 29 t7, em 30 t0, .o 31 (.len t30), .o 32 (.slc 14 t29 .no t31), em 33 t1, em 34 t2, ec 35 6 [t32, t33, t34], em 8 t35])
  (.seq (io [.o 36 (.bsl 14 29 (.st (zc (zc (.cons (.st (.cons (.arr 12 1 fun _ => zi) .nil)) .nil)))) []), em 37 t8, .o 38 (.app 14 112 29 t36 t37), em 9 t38])
  (.seq (io [em 10 (ci 0)])
  (.seq (.seq (io [em 11 (ci 0)])
  (.block 0 (.loop (.seq (.seq (io [em 39 t11, em 40 t0, .o 41 (.len t40), eb 42 .lss t39 t41])
  (.cond t42
  .skip
  (.exit 0)))
  (.seq (.block 1 (.seq (io [em 45 t0, em 46 t11, es 47 14 t45 t46, ef 48 0 0 t47, el 49 false 1 t48, em 50 t1, eb 51 .geq t49 t50, em 52 t51, .og 53 52 true (.mv t0), .og 54 52 true (.mv t11), .og 55 52 true (.ixs 14 t53 t54), .og 56 52 true (.fa 0 0 t55), .og 57 52 true (.ld false 1 t56), .og 58 52 true (.mv t2), .og 59 52 true (.bin .leq t57 t58), .o 60 (.pick t52 t59 cf)])
  (.cond t60
  (.ops [em 61 t10, eb 62 .add t61 (ci 1), em 10 t62])
  .skip)))
  (.ops [em 43 t11, eb 44 .add t43 (ci 1), em 11 t44]))))))
  (.seq (.seq (io [em 63 t8, .o 64 (.len t63), em 65 t10, eb 66 .neq t64 t65])
  (.cond t66
  (.seq (io [em 6 cf])
  .ret)
  .skip))
  (.seq (.seq (io [em 12 (ci 0)])
  (.block 2 (.loop (.seq (.seq (io [em 67 t12, em 68 t10, eb 69 .lss t67 t68])
  (.cond t69
  .skip
  (.exit 2)))
  (.seq (.block 3 (.ops [em 72 t8, em 73 t12, .o 74 (.build (.st (zc (zc (.cons (.st (.cons (.arr 12 1 fun _ => zi) .nil)) .nil)))) [(0, 0, 1, (ci (-1)))]), es 75 14 t72 t73, .n (.sto 14 t75 t74)]))
  (.ops [em 70 t12, eb 71 .add t70 (ci 1), em 12 t71]))))))
  (.seq (io [em 76 t8, .o 77 (.build (.st (zc (zc (.cons (.st (.cons (.arr 12 1 fun _ => zi) .nil)) .nil)))) [(0, 0, 1, (ci (-2)))]), .o 78 (.bsl 14 29 (.st (zc (zc (.cons (.st (.cons (.arr 12 1 fun _ => zi) .nil)) .nil)))) [(0, 0, 14, t77)]), .o 79 (.app 14 112 29 t76 t78), em 13 t79])
  (.seq (io [em 80 t7, em 81 t0, .o 82 (.len t81), .o 83 (.slc 14 t80 .no t82), em 84 t1, em 85 t2, ec 86 6 [t83, t84, t85], em 14 t86])
  (.seq (.seq (io [em 87 t14, em 88 t9, ec 89 7 [t87, t88], .o 90 (.un .not t89), em 91 t90, .og 92 91 false (.mv t7), .og 93 91 false (.mv t0), .og 94 91 false (.call 5 [t93]), .og 95 91 false (.call 7 [t92, t94]), .og 96 91 false (.un .not t95), .o 97 (.pick t91 ct t96)])
  (.cond t97
  (.seq (io [em 6 cf])
  .ret)
  .skip))
  (.seq (.seq (io [em 15 (ci 0)])
  (.block 4 (.loop (.seq (.seq (io [em 98 t15, em 99 t14, .o 100 (.len t99), eb 101 .lss t98 t100])
  (.cond t101
  .skip
  (.exit 4)))
  (.seq (.block 5 (.ops [em 104 t14, em 105 t15, .o 106 (.build (.st (zc (zc (.cons (.st (.cons (.arr 12 1 fun _ => zi) .nil)) .nil)))) [(0, 0, 1, (ci (-3)))]), es 107 14 t104 t105, .n (.sto 14 t107 t106)]))
  (.ops [em 102 t15, eb 103 .add t102 (ci 1), em 15 t103]))))))
  (.seq (io [em 108 t14, .o 109 (.build (.st (zc (zc (.cons (.st (.cons (.arr 12 1 fun _ => zi) .nil)) .nil)))) [(0, 0, 1, (ci (-4)))]), .o 110 (.bsl 14 29 (.st (zc (zc (.cons (.st (.cons (.arr 12 1 fun _ => zi) .nil)) .nil)))) [(0, 0, 14, t109)]), .o 111 (.app 14 112 29 t108 t110), em 16 t111])
  (.seq (io [em 113 t7, em 114 t0, .o 115 (.len t114), .o 116 (.slc 14 t113 .no t115), em 117 t1, em 118 t2, ec 119 8 [t116, t117, t118], em 112 t119, ex 120 0 t112, ex 121 1 t112, em 17 t120, em 18 t121])
  (.seq (io [.o 122 (.bsl 1 9 (.val (.string ⟨#[]⟩)) []), em 123 t17, .o 124 (.app 1 16 9 t122 t123), em 19 t124])
  (.seq (.seq (io [em 20 (ci 0)])
  (.block 6 (.loop (.seq (.seq (io [em 125 t20, em 126 t17, .o 127 (.len t126), eb 128 .lss t125 t127])
  (.cond t128
  .skip
  (.exit 6)))
  (.seq (.block 7 (.ops [em 131 t17, em 132 t20, es 133 1 t131 t132, .n (.sto 1 t133 (.c (.string ⟨#[120]⟩)))]))
  (.ops [em 129 t20, eb 130 .add t129 (ci 1), em 20 t130]))))))
  (.seq (io [em 135 t7, em 136 t0, .o 137 (.len t136), .o 138 (.slc 14 t135 .no t137), em 139 t1, em 140 t2, ec 141 8 [t138, t139, t140], em 134 t141, ex 142 0 t134, ex 143 1 t134, em 21 t142, em 22 t143])
  (.seq (.seq (io [em 144 t13, em 145 t10, es 146 14 t144 t145, ef 147 0 0 t146, el 148 false 1 t147, eb 149 .neq t148 (ci (-2)), em 150 t149, .og 151 150 false (.mv t16), .og 152 150 false (.mv t10), .og 153 150 false (.ixs 14 t151 t152), .og 154 150 false (.fa 0 0 t153), .og 155 150 false (.ld false 1 t154), .og 156 150 false (.bin .neq t155 (ci (-4))), .o 157 (.pick t150 ct t156), em 158 t157, .og 159 158 false (.mv t21), .og 160 158 false (.mv t19), .og 161 158 false (.call 9 [t159, t160]), .og 162 158 false (.un .not t161), .o 163 (.pick t158 ct t162)])
  (.cond t163
  (.seq (io [em 6 cf])
  .ret)
  .skip))
  (.seq (.seq (io [em 23 (ci 0)])
  (.block 8 (.loop (.seq (.seq (io [em 164 t23, em 165 t10, eb 166 .lss t164 t165])
  (.cond t166
  .skip
  (.exit 8)))
  (.seq (.block 9 (.seq (io [em 169 t8, em 170 t23, es 171 14 t169 t170, ef 172 0 0 t171, el 173 false 1 t172, eb 174 .neq t173 (ci (-1)), em 175 t174, .og 176 175 false (.mv t14), .og 177 175 false (.mv t23), .og 178 175 false (.ixs 14 t176 t177), .og 179 175 false (.fa 0 0 t178), .og 180 175 false (.ld false 1 t179), .og 181 175 false (.bin .neq t180 (ci (-3))), .o 182 (.pick t175 ct t181)])
  (.cond t182
  (.seq (io [em 6 cf])
  .ret)
  .skip)))
  (.ops [em 167 t23, eb 168 .add t167 (ci 1), em 23 t168]))))))
  (.seq (io [em 183 t7, em 184 t0, ec 185 5 [t184], ec 186 7 [t183, t185], em 6 t186])
  .ret)))))))))))))))))))))
theorem hc_l22_StatementFresh : compF Tryd.prog 187 Tryd.f3 = some (ic_l22_StatementFresh, [.t 6]) := by kernel_rfl

theorem fn_l22_StatementLines : Tryd.prog.funcs[l22_StatementLines]? = some Tryd.f4 := Tryd.func4
theorem nt_l22_StatementLines : Tryd.f4.ntmps = 48 := Tryd.ntmps4
def ic_l22_StatementLines : IC := (.seq (io [em 6 cf])
  (.seq (.seq (io [em 12 t0, .o 13 (.len t12), eb 14 .gtr t13 (ci 4000)])
  (.cond t14
  (.seq (io [em 6 ct])
  .ret)
  .skip))
  (.seq (io [em 15 t0, ec 16 5 [t15], em 7 t16])
  (.seq (io [em 18 t7, em 19 t0, .o 20 (.len t19), .o 21 (.slc 14 t18 .no t20), em 22 t1, em 23 t2, ec 24 8 [t21, t22, t23], em 17 t24, ex 25 0 t17, ex 26 1 t17, em 8 t25, em 9 t26])
  (.seq (io [em 28 t0, em 29 t1, em 30 t2, ec 31 10 [t28, t29, t30], em 27 t31, ex 32 0 t27, ex 33 1 t27, em 10 t32, em 11 t33])
  (.seq (io [em 34 t9, em 35 t11, .o 36 (.eqv false t34 t35), em 37 t36, .og 38 37 true (.mv t8), .og 39 37 true (.mv t10), .og 40 37 true (.call 9 [t38, t39]), .o 41 (.pick t37 t40 cf), em 42 t41, .og 43 42 true (.mv t7), .og 44 42 true (.mv t0), .og 45 42 true (.call 5 [t44]), .og 46 42 true (.call 7 [t43, t45]), .o 47 (.pick t42 t46 cf), em 6 t47])
  .ret))))))
theorem hc_l22_StatementLines : compF Tryd.prog 48 Tryd.f4 = some (ic_l22_StatementLines, [.t 6]) := by kernel_rfl

theorem fn_l22_copied : Tryd.prog.funcs[l22_copied]? = some Tryd.f5 := Tryd.func5
theorem nt_l22_copied : Tryd.f5.ntmps = 22 := Tryd.ntmps5
def ic_l22_copied : IC := (.seq (io [em 2 (.c (.slice none 0 0))])
  (.seq (io [em 3 (.c (.slice none 0 0))])
  (.seq (.seq (io [em 4 (ci 0)])
  (.block 0 (.loop (.seq (.seq (io [em 5 t4, em 6 t0, .o 7 (.len t6), eb 8 .lss t5 t7])
  (.cond t8
  .skip
  (.exit 0)))
  (.seq (.block 1 (.ops [em 11 t3, em 12 t0, em 13 t4, es 14 14 t12 t13, el 15 true 14 t14, .o 16 (.bsl 14 29 (.st (zc (zc (.cons (.st (.cons (.arr 12 1 fun _ => zi) .nil)) .nil)))) [(0, 0, 14, t15)]), .o 17 (.app 14 112 29 t11 t16), em 3 t17]))
  (.ops [em 9 t4, eb 10 .add t9 (ci 1), em 4 t10]))))))
  (.seq (io [em 18 t3, .o 19 (.build (.st (zc (zc (.cons (.st (.cons (.arr 12 1 fun _ => zi) .nil)) .nil)))) [(0, 0, 1, (ci (-7))), (1, 1, 1, (ci (-7)))]), .o 20 (.bsl 14 29 (.st (zc (zc (.cons (.st (.cons (.arr 12 1 fun _ => zi) .nil)) .nil)))) [(0, 0, 14, t19)]), .o 21 (.app 14 112 29 t18 t20), em 2 t21])
  .ret))))
theorem hc_l22_copied : compF Tryd.prog 22 Tryd.f5 = some (ic_l22_copied, [.t 2]) := by kernel_rfl

theorem fn_statement_Within : Tryd.prog.funcs[statement_Within]? = some Tryd.f6 := Tryd.func6
theorem nt_statement_Within : Tryd.f6.ntmps = 32 := Tryd.ntmps6
def ic_statement_Within : IC := (.seq (io [em 6 (.c (.slice none 0 0))])
  (.seq (io [em 7 (.c (.slice none 0 0))])
  (.seq (.seq (io [em 10 t0, .o 11 (.len t10), em 12 (ci 0)])
  (.block 0 (.loop (.seq (io [eb 13 .lss t12 t11])
  (.seq (.cond t13
  .skip
  (.exit 0))
  (.seq (.block 1 (.seq (io [es 14 14 t10 t12, el 15 true 14 t14, .o 9 (.alloc (.st (zc (zc (.cons (.st (.cons (.arr 12 1 fun _ => zi) .nil)) .nil))))), .n (.sto 14 t9 t15)])
  (.seq (io [ef 16 0 0 t9, el 17 false 1 t16, em 18 t1, eb 19 .geq t17 t18, em 20 t19, .og 21 20 true (.fa 0 0 t9), .og 22 20 true (.ld false 1 t21), .og 23 20 true (.mv t2), .og 24 20 true (.bin .leq t22 t23), .o 25 (.pick t20 t24 cf)])
  (.cond t25
  (.ops [em 26 t7, el 27 true 14 t9, .o 28 (.bsl 14 29 (.st (zc (zc (.cons (.st (.cons (.arr 12 1 fun _ => zi) .nil)) .nil)))) [(0, 0, 14, t27)]), .o 29 (.app 14 112 29 t26 t28), em 7 t29])
  .skip))))
  (.ops [eb 30 .add t12 (ci 1), em 12 t30])))))))
  (.seq (io [em 31 t7, em 6 t31])
  .ret))))
theorem hc_statement_Within : compF Tryd.prog 32 Tryd.f6 = some (ic_statement_Within, [.t 6]) := by kernel_rfl

theorem fn_l22_sameMoves : Tryd.prog.funcs[l22_sameMoves]? = some Tryd.f7 := Tryd.func7
theorem nt_l22_sameMoves : Tryd.f7.ntmps = 26 := Tryd.ntmps7
def ic_l22_sameMoves : IC := (.seq (io [em 4 cf])
  (.seq (.seq (io [em 6 t0, .o 7 (.len t6), em 8 t1, .o 9 (.len t8), eb 10 .neq t7 t9])
  (.cond t10
  (.seq (io [em 4 cf])
  .ret)
  .skip))
  (.seq (.seq (io [em 5 (ci 0)])
  (.block 0 (.loop (.seq (.seq (io [em 11 t5, em 12 t0, .o 13 (.len t12), eb 14 .lss t11 t13])
  (.cond t14
  .skip
  (.exit 0)))
  (.seq (.block 1 (.seq (.dops [em 17 t0, em 18 t5, es 19 14 t17 t18, el 20 true 14 t19, em 21 t1, em 22 t5, es 23 14 t21 t22, el 24 true 14 t23, .o 25 (.eqs true (.st (.cons .int (.cons .int (.cons (.st (.cons (.arr 12 1 .int) .nil)) .nil)))) t20 t24)])
  (.cond t25
  (.seq (io [em 4 cf])
  .ret)
  .skip)))
  (.ops [em 15 t5, eb 16 .add t15 (ci 1), em 5 t16]))))))
  (.seq (io [em 4 ct])
  .ret))))
theorem hc_l22_sameMoves : compF Tryd.prog 26 Tryd.f7 = some (ic_l22_sameMoves, [.t 4]) := by kernel_rfl

theorem fn_statement_Lines : Tryd.prog.funcs[statement_Lines]? = some Tryd.f8 := Tryd.func8
theorem nt_statement_Lines : Tryd.f8.ntmps = 89 := Tryd.ntmps8
def ic_statement_Lines : IC := (.seq (io [em 6 (.c (.slice none 0 0)), em 7 cf])
  (.seq (io [em 20 t1, ec 21 11 [t20], em 19 t21, ex 22 0 t19, ex 23 1 t19, em 8 t22, em 9 t23])
  (.seq (io [em 25 t2, ec 26 11 [t25], em 24 t26, ex 27 0 t24, ex 28 1 t24, em 10 t27, em 11 t28])
  (.seq (.seq (io [em 29 t9, .o 30 (.un .not t29), em 31 t30, .og 32 31 false (.mv t11), .og 33 31 false (.un .not t32), .o 34 (.pick t31 ct t33), em 35 t34, .og 36 35 false (.mv t1), .og 37 35 false (.mv t2), .og 38 35 false (.bin .gtr t36 t37), .o 39 (.pick t35 ct t38)])
  (.cond t39
  (.seq (io [em 6 (.c (.slice none 0 0)), em 7 cf])
  .ret)
  .skip))
  (.seq (io [em 41 t0, em 42 t1, eb 43 .sub t42 (ci 1), .o 44 (.call 12 [(.c (.string ⟨#[79, 80, 69, 78, 73, 78, 71]⟩)), t41, t43]), em 40 t44, ex 45 0 t40, ex 46 1 t40, em 12 t45, em 9 t46])
  (.seq (.seq (io [em 47 t9, .o 48 (.un .not t47)])
  (.cond t48
  (.seq (io [em 6 (.c (.slice none 0 0)), em 7 cf])
  .ret)
  .skip))
  (.seq (io [em 49 t8, .o 50 (.sop .add (.c (.string ⟨#[70, 82, 79, 77, 32]⟩)) t49), .o 51 (.sop .add t50 (.c (.string ⟨#[32, 84, 79, 32]⟩))), em 52 t10, .o 53 (.sop .add t51 t52), em 54 t12, .o 55 (.bsl 1 9 (.val (.string ⟨#[]⟩)) [(0, 0, 1, t53), (1, 1, 1, t54)]), em 13 t55])
  (.seq (.seq (io [em 56 t0, em 57 t1, em 58 t2, ec 59 6 [t56, t57, t58], .o 60 (.len t59), em 61 (ci 0)])
  (.block 0 (.loop (.seq (io [eb 62 .lss t61 t60])
  (.seq (.cond t62
  .skip
  (.exit 0))
  (.seq (.block 1 (.seq (io [es 63 14 t59 t61, el 64 true 14 t63, .o 15 (.alloc (.st (zc (zc (.cons (.st (.cons (.arr 12 1 fun _ => zi) .nil)) .nil))))), .n (.sto 14 t15 t64)])
  (.seq (io [el 66 true 14 t15, ec 67 13 [t66], em 65 t67, ex 68 0 t65, ex 69 1 t65, em 16 t68, em 17 t69])
  (.seq (.seq (io [em 70 t17, .o 71 (.un .not t70)])
  (.cond t71
  (.seq (io [em 6 (.c (.slice none 0 0)), em 7 cf])
  .ret)
  .skip))
  (.ops [em 72 t13, em 73 t16, .o 74 (.bsl 1 9 (.val (.string ⟨#[]⟩)) [(0, 0, 1, t73)]), .o 75 (.app 1 16 9 t72 t74), em 13 t75])))))
  (.ops [eb 76 .add t61 (ci 1), em 61 t76])))))))
  (.seq (io [em 78 t0, em 79 t2, .o 80 (.call 12 [(.c (.string ⟨#[67, 76, 79, 83, 73, 78, 71]⟩)), t78, t79]), em 77 t80, ex 81 0 t77, ex 82 1 t77, em 18 t81, em 9 t82])
  (.seq (.seq (io [em 83 t9, .o 84 (.un .not t83)])
  (.cond t84
  (.seq (io [em 6 (.c (.slice none 0 0)), em 7 cf])
  .ret)
  .skip))
  (.seq (io [em 85 t13, em 86 t18, .o 87 (.bsl 1 9 (.val (.string ⟨#[]⟩)) [(0, 0, 1, t86)]), .o 88 (.app 1 16 9 t85 t87), em 6 t88, em 7 ct])
  .ret)))))))))))
theorem hc_statement_Lines : compF Tryd.prog 89 Tryd.f8 = some (ic_statement_Lines, [.t 6, .t 7]) := by kernel_rfl

theorem fn_l22_sameLines : Tryd.prog.funcs[l22_sameLines]? = some Tryd.f9 := Tryd.func9
theorem nt_l22_sameLines : Tryd.f9.ntmps = 26 := Tryd.ntmps9
def ic_l22_sameLines : IC := (.seq (io [em 4 cf])
  (.seq (.seq (io [em 6 t0, .o 7 (.len t6), em 8 t1, .o 9 (.len t8), eb 10 .neq t7 t9])
  (.cond t10
  (.seq (io [em 4 cf])
  .ret)
  .skip))
  (.seq (.seq (io [em 5 (ci 0)])
  (.block 0 (.loop (.seq (.seq (io [em 11 t5, em 12 t0, .o 13 (.len t12), eb 14 .lss t11 t13])
  (.cond t14
  .skip
  (.exit 0)))
  (.seq (.block 1 (.seq (.dops [em 17 t0, em 18 t5, es 19 1 t17 t18, el 20 false 1 t19, em 21 t1, em 22 t5, es 23 1 t21 t22, el 24 false 1 t23, .o 25 (.sop .neq t20 t24)])
  (.cond t25
  (.seq (io [em 4 cf])
  .ret)
  .skip)))
  (.ops [em 15 t5, eb 16 .add t15 (ci 1), em 5 t16]))))))
  (.seq (io [em 4 ct])
  .ret))))
theorem hc_l22_sameLines : compF Tryd.prog 26 Tryd.f9 = some (ic_l22_sameLines, [.t 4]) := by kernel_rfl

theorem fn_r22_Lines : Tryd.prog.funcs[r22_Lines]? = some Tryd.f10 := Tryd.func10
theorem nt_r22_Lines : Tryd.f10.ntmps = 132 := Tryd.ntmps10
def ic_r22_Lines : IC := (.seq (io [em 6 (.c (.slice none 0 0)), em 7 cf])
  (.seq (io [em 24 t1, ec 25 14 [t24], em 23 t25, ex 26 0 t23, ex 27 1 t23, em 8 t26, em 9 t27])
  (.seq (io [em 29 t2, ec 30 14 [t29], em 28 t30, ex 31 0 t28, ex 32 1 t28, em 10 t31, em 11 t32])
  (.seq (.seq (io [em 33 t9, .o 34 (.un .not t33), em 35 t34, .og 36 35 false (.mv t11), .og 37 35 false (.un .not t36), .o 38 (.pick t35 ct t37), em 39 t38, .og 40 39 false (.mv t1), .og 41 39 false (.mv t2), .og 42 39 false (.bin .gtr t40 t41), .o 43 (.pick t39 ct t42)])
  (.cond t43
  (.seq (io [em 6 (.c (.slice none 0 0)), em 7 cf])
  .ret)
  .skip))
  (.seq (io [em 45 t0, em 46 t1, eb 47 .sub t46 (ci 1), .o 48 (.call 15 [(.c (.string ⟨#[79, 80, 69, 78, 73, 78, 71]⟩)), t45, t47]), em 44 t48, ex 49 0 t44, ex 50 1 t44, em 12 t49, em 13 t50])
  (.seq (io [em 52 t0, em 53 t2, .o 54 (.call 15 [(.c (.string ⟨#[67, 76, 79, 83, 73, 78, 71]⟩)), t52, t53]), em 51 t54, ex 55 0 t51, ex 56 1 t51, em 14 t55, em 15 t56])
  (.seq (.seq (io [em 57 t13, .o 58 (.un .not t57), em 59 t58, .og 60 59 false (.mv t15), .og 61 59 false (.un .not t60), .o 62 (.pick t59 ct t61)])
  (.cond t62
  (.seq (io [em 6 (.c (.slice none 0 0)), em 7 cf])
  .ret)
  .skip))
  (.seq (io [em 16 (.c (.slice none 0 0))])
  (.seq (io [em 63 t16, em 64 t8, .o 65 (.sop .add (.c (.string ⟨#[70, 82, 79, 77, 32]⟩)) t64), .o 66 (.sop .add t65 (.c (.string ⟨#[32, 84, 79, 32]⟩))), em 67 t10, .o 68 (.sop .add t66 t67), .o 69 (.bsl 1 9 (.val (.string ⟨#[]⟩)) [(0, 0, 1, t68)]), .o 70 (.app 1 16 9 t63 t69), em 16 t70])
  (.seq (io [em 71 t16, em 72 t12, .o 73 (.bsl 1 9 (.val (.string ⟨#[]⟩)) [(0, 0, 1, t72)]), .o 74 (.app 1 16 9 t71 t73), em 16 t74])
  (.seq (io [em 75 t0, em 76 t1, em 77 t2, ec 78 16 [t75, t76, t77], em 17 t78])
  (.seq (.seq (io [em 18 (ci 0)])
  (.block 0 (.loop (.seq (.seq (io [em 79 t18, em 80 t17, .o 81 (.len t80), eb 82 .lss t79 t81])
  (.cond t82
  .skip
  (.exit 0)))
  (.seq (.block 1 (.seq (io [em 86 t17, em 87 t18, es 88 14 t86 t87, ef 89 0 0 t88, el 90 false 1 t89, ec 91 14 [t90], em 85 t91, ex 92 0 t85, ex 93 1 t85, em 19 t92, em 20 t93])
  (.seq (io [em 95 t17, em 96 t18, es 97 14 t95 t96, ef 98 2 2 t97, el 99 true 12 t98, ec 100 17 [t99, ct], em 94 t100, ex 101 0 t94, ex 102 1 t94, em 21 t101, em 22 t102])
  (.seq (.seq (io [em 103 t22, .o 104 (.un .not t103), em 105 t104, .og 106 105 false (.mv t17), .og 107 105 false (.mv t18), .og 108 105 false (.ixs 14 t106 t107), .og 109 105 false (.fa 1 1 t108), .og 110 105 false (.ld false 1 t109), .og 111 105 false (.call 18 [t110]), .og 112 105 false (.sop .eql t111 (.c (.string ⟨#[]⟩))), .o 113 (.pick t105 ct t112)])
  (.cond t113
  (.seq (io [em 6 (.c (.slice none 0 0)), em 7 cf])
  .ret)
  .skip))
  (.ops [em 114 t16, em 115 t19, .o 116 (.sop .add t115 (.c (.string ⟨#[32]⟩))), em 117 t17, em 118 t18, es 119 14 t117 t118, ef 120 1 1 t119, el 121 false 1 t120, ec 122 18 [t121], .o 123 (.sop .add t116 t122), em 124 t21, .o 125 (.sop .add t123 t124), .o 126 (.bsl 1 9 (.val (.string ⟨#[]⟩)) [(0, 0, 1, t125)]), .o 127 (.app 1 16 9 t114 t126), em 16 t127])))))
  (.ops [em 83 t18, eb 84 .add t83 (ci 1), em 18 t84]))))))
  (.seq (io [em 128 t16, em 129 t14, .o 130 (.bsl 1 9 (.val (.string ⟨#[]⟩)) [(0, 0, 1, t129)]), .o 131 (.app 1 16 9 t128 t130), em 6 t131, em 7 ct])
  .ret)))))))))))))
theorem hc_r22_Lines : compF Tryd.prog 132 Tryd.f10 = some (ic_r22_Lines, [.t 6, .t 7]) := by kernel_rfl

theorem fn_calendar_FormatDate : Tryd.prog.funcs[calendar_FormatDate]? = some Tryd.f11 := Tryd.func11
theorem nt_calendar_FormatDate : Tryd.f11.ntmps = 33 := Tryd.ntmps11
def ic_calendar_FormatDate : IC := (.seq (io [em 2 (.c (.string ⟨#[]⟩)), em 3 cf])
  (.seq (io [em 8 t0, ec 9 19 [t8], em 7 t9, ex 10 0 t7, ex 11 1 t7, .o 4 (.alloc (.st (zc (zc (zc .nil))))), .n (.sto 3 t4 t10), em 5 t11])
  (.seq (.seq (io [em 12 t5, .o 13 (.un .not t12)])
  (.cond t13
  (.seq (io [em 2 (.c (.string ⟨#[]⟩)), em 3 cf])
  .ret)
  .skip))
  (.seq (io [.o 14 (.bsl 1 5 (.val (.int .u8 0)) [(0, 0, 1, (.c (.int .u8 48))), (1, 1, 1, (.c (.int .u8 48))), (2, 2, 1, (.c (.int .u8 48))), (3, 3, 1, (.c (.int .u8 48))), (4, 4, 1, (.c (.int .u8 45))), (5, 5, 1, (.c (.int .u8 48))), (6, 6, 1, (.c (.int .u8 48))), (7, 7, 1, (.c (.int .u8 45))), (8, 8, 1, (.c (.int .u8 48))), (9, 9, 1, (.c (.int .u8 48)))]), .o 15 (.cvb t14), em 6 t15])
  (.seq (.dops [em 16 t6, .o 17 (.slc 1 t16 .no (ci 4)), ef 18 0 0 t4, el 19 false 1 t18, ey 20 20 [t17, t19]])
  (.seq (.dops [em 21 t6, .o 22 (.slc 1 t21 (ci 5) (ci 7)), ef 23 1 1 t4, el 24 false 1 t23, ey 25 20 [t22, t24]])
  (.seq (.dops [em 26 t6, .o 27 (.slc 1 t26 (ci 8) .no), ef 28 2 2 t4, el 29 false 1 t28, ey 30 20 [t27, t29]])
  (.seq (io [em 31 t6, .o 32 (.b2s t31), em 2 t32, em 3 ct])
  .ret))))))))
theorem hc_calendar_FormatDate : compF Tryd.prog 33 Tryd.f11 = some (ic_calendar_FormatDate, [.t 2, .t 3]) := by kernel_rfl

theorem fn_statement_total : Tryd.prog.funcs[statement_total]? = some Tryd.f12 := Tryd.func12
theorem nt_statement_total : Tryd.f12.ntmps = 28 := Tryd.ntmps12
def ic_statement_total : IC := (.seq (io [em 6 (.c (.string ⟨#[]⟩)), em 7 cf])
  (.seq (io [em 12 t1, em 13 t2, ec 14 21 [t12, t13], em 11 t14, ex 15 0 t11, ex 16 1 t11, .o 8 (.alloc (.st (.cons (.arr 12 1 fun _ => zi) .nil))), .n (.sto 12 t8 t15), em 9 t16])
  (.seq (.seq (io [em 17 t9, .o 18 (.un .not t17)])
  (.cond t18
  (.seq (io [em 6 (.c (.string ⟨#[]⟩)), em 7 cf])
  .ret)
  .skip))
  (.seq (io [el 20 true 12 t8, ec 21 22 [t20, cf], em 19 t21, ex 22 0 t19, ex 23 1 t19, em 10 t22, em 9 t23])
  (.seq (io [em 24 t0, em 25 t10, .o 26 (.sop .add t24 t25), em 27 t9, em 6 t26, em 7 t27])
  .ret)))))
theorem hc_statement_total : compF Tryd.prog 28 Tryd.f12 = some (ic_statement_total, [.t 6, .t 7]) := by kernel_rfl

theorem fn_statement_row : Tryd.prog.funcs[statement_row]? = some Tryd.f13 := Tryd.func13
theorem nt_statement_row : Tryd.f13.ntmps = 38 := Tryd.ntmps13
def ic_statement_row : IC := (.seq (io [.o 1 (.box t0), em 2 (.c (.string ⟨#[]⟩)), em 3 cf])
  (.seq (.seq (io [ef 8 1 1 t1, el 9 false 1 t8, eb 10 .lss t9 (ci 1), em 11 t10, .og 12 11 false (.fa 1 1 t1), .og 13 11 false (.ld false 1 t12), .og 14 11 false (.bin .gtr t13 (ci 8)), .o 15 (.pick t11 ct t14)])
  (.cond t15
  (.seq (io [em 2 (.c (.string ⟨#[]⟩)), em 3 cf])
  .ret)
  .skip))
  (.seq (io [ef 17 0 0 t1, el 18 false 1 t17, ec 19 11 [t18], em 16 t19, ex 20 0 t16, ex 21 1 t16, em 4 t20, em 5 t21])
  (.seq (io [ef 23 2 2 t1, el 24 true 12 t23, ec 25 22 [t24, ct], em 22 t25, ex 26 0 t22, ex 27 1 t22, em 6 t26, em 7 t27])
  (.seq (io [em 28 t4, .o 29 (.sop .add t28 (.c (.string ⟨#[32]⟩))), ef 30 1 1 t1, el 31 false 1 t30, .o 32 (.ixa 9 1 (.g 0) t31), el 33 false 1 t32, .o 34 (.sop .add t29 t33), em 35 t6, .o 36 (.sop .add t34 t35), em 37 t7, em 2 t36, em 3 t37])
  .ret)))))
theorem hc_statement_row : compF Tryd.prog 38 Tryd.f13 = some (ic_statement_row, [.t 2, .t 3]) := by kernel_rfl

theorem fn_r2_FormatDate : Tryd.prog.funcs[r2_FormatDate]? = some Tryd.f14 := Tryd.func14
theorem nt_r2_FormatDate : Tryd.f14.ntmps = 26 := Tryd.ntmps14
def ic_r2_FormatDate : IC := (.seq (io [em 2 (.c (.string ⟨#[]⟩)), em 3 cf])
  (.seq (io [em 7 t0, ec 8 23 [t7], em 6 t8, ex 9 0 t6, ex 10 1 t6, .o 4 (.alloc (.st (zc (zc (zc .nil))))), .n (.sto 3 t4 t9), em 5 t10])
  (.seq (.seq (io [em 11 t5, .o 12 (.un .not t11)])
  (.cond t12
  (.seq (io [em 2 (.c (.string ⟨#[]⟩)), em 3 cf])
  .ret)
  .skip))
  (.seq (.dops [ef 13 0 0 t4, el 14 false 1 t13, ec 15 24 [t14, (ci 4)], .o 16 (.sop .add t15 (.c (.string ⟨#[45]⟩))), ef 17 1 1 t4, el 18 false 1 t17, ec 19 24 [t18, (ci 2)], .o 20 (.sop .add t16 t19), .o 21 (.sop .add t20 (.c (.string ⟨#[45]⟩))), ef 22 2 2 t4, el 23 false 1 t22, ec 24 24 [t23, (ci 2)], .o 25 (.sop .add t21 t24), em 2 t25, em 3 ct])
  .ret))))
theorem hc_r2_FormatDate : compF Tryd.prog 26 Tryd.f14 = some (ic_r2_FormatDate, [.t 2, .t 3]) := by kernel_rfl

theorem fn_r22_standing : Tryd.prog.funcs[r22_standing]? = some Tryd.f15 := Tryd.func15
theorem nt_r22_standing : Tryd.f15.ntmps = 30 := Tryd.ntmps15
def ic_r22_standing : IC := (.seq (io [em 6 (.c (.string ⟨#[]⟩)), em 7 cf])
  (.seq (io [em 13 t1, em 14 t2, ec 15 25 [t13, t14], em 12 t15, ex 16 0 t12, ex 17 1 t12, .o 8 (.alloc (.st (.cons (.arr 12 1 fun _ => zi) .nil))), .n (.sto 12 t8 t16), em 9 t17])
  (.seq (io [el 19 true 12 t8, ec 20 17 [t19, cf], em 18 t20, ex 21 0 t18, ex 22 1 t18, em 10 t21, em 11 t22])
  (.seq (io [em 23 t0, em 24 t10, .o 25 (.sop .add t23 t24), em 26 t9, em 27 t26, .og 28 27 true (.mv t11), .o 29 (.pick t27 t28 cf), em 6 t25, em 7 t29])
  .ret))))
theorem hc_r22_standing : compF Tryd.prog 30 Tryd.f15 = some (ic_r22_standing, [.t 6, .t 7]) := by kernel_rfl

theorem fn_r22_Within : Tryd.prog.funcs[r22_Within]? = some Tryd.f16 := Tryd.func16
theorem nt_r22_Within : Tryd.f16.ntmps = 39 := Tryd.ntmps16
def ic_r22_Within : IC := (.seq (io [em 6 (.c (.slice none 0 0))])
  (.seq (io [em 7 (.c (.slice none 0 0))])
  (.seq (.seq (io [em 8 (ci 0)])
  (.block 0 (.loop (.seq (.seq (io [em 9 t8, em 10 t0, .o 11 (.len t10), eb 12 .lss t9 t11])
  (.cond t12
  .skip
  (.exit 0)))
  (.seq (.block 1 (.seq (io [em 15 t1, em 16 t0, em 17 t8, es 18 14 t16 t17, ef 19 0 0 t18, el 20 false 1 t19, eb 21 .leq t15 t20, em 22 t21, .og 23 22 true (.mv t0), .og 24 22 true (.mv t8), .og 25 22 true (.ixs 14 t23 t24), .og 26 22 true (.fa 0 0 t25), .og 27 22 true (.ld false 1 t26), .og 28 22 true (.mv t2), .og 29 22 true (.bin .leq t27 t28), .o 30 (.pick t22 t29 cf)])
  (.cond t30
  (.ops [em 31 t7, em 32 t0, em 33 t8, es 34 14 t32 t33, el 35 true 14 t34, .o 36 (.bsl 14 29 (.st (zc (zc (.cons (.st (.cons (.arr 12 1 fun _ => zi) .nil)) .nil)))) [(0, 0, 14, t35)]), .o 37 (.app 14 112 29 t31 t36), em 7 t37])
  .skip)))
  (.ops [em 13 t8, eb 14 .add t13 (ci 1), em 8 t14]))))))
  (.seq (io [em 38 t7, em 6 t38])
  .ret))))
theorem hc_r22_Within : compF Tryd.prog 39 Tryd.f16 = some (ic_r22_Within, [.t 6]) := by kernel_rfl

theorem fn_r22_columns : Tryd.prog.funcs[r22_columns]? = some Tryd.f17 := Tryd.func17
theorem nt_r22_columns : Tryd.f17.ntmps = 44 := Tryd.ntmps17
def ic_r22_columns : IC := (.seq (io [.o 2 (.box t0), em 4 (.c (.string ⟨#[]⟩)), em 5 cf])
  (.seq (io [ef 10 0 0 t2, .o 11 (.ixa 12 1 t10 (ci 4)), el 12 false 1 t11, ec 13 26 [(ci 0), t12], em 9 t13, ex 14 0 t9, ex 15 1 t9, em 6 t14, em 7 t15])
  (.seq (.seq (io [em 16 t7, .o 17 (.un .not t16)])
  (.cond t17
  (.seq (io [em 4 (.c (.string ⟨#[]⟩)), em 5 cf])
  .ret)
  .skip))
  (.seq (.dops [ef 18 0 0 t2, .o 19 (.ixa 12 1 t18 (ci 1)), el 20 false 1 t19, em 21 t1, ec 22 27 [t20, t21], .o 23 (.sop .add (.c (.string ⟨#[32]⟩)) t22), .o 24 (.sop .add t23 (.c (.string ⟨#[32]⟩))), ef 25 0 0 t2, .o 26 (.ixa 12 1 t25 (ci 2)), el 27 false 1 t26, em 28 t1, ec 29 27 [t27, t28], .o 30 (.sop .add t24 t29), .o 31 (.sop .add t30 (.c (.string ⟨#[32]⟩))), ef 32 0 0 t2, .o 33 (.ixa 12 1 t32 (ci 3)), el 34 false 1 t33, em 35 t1, ec 36 27 [t34, t35], .o 37 (.sop .add t31 t36), em 8 t37])
  (.seq (io [em 38 t8, .o 39 (.sop .add t38 (.c (.string ⟨#[32]⟩))), em 40 t6, em 41 t1, ec 42 27 [t40, t41], .o 43 (.sop .add t39 t42), em 4 t43, em 5 ct])
  .ret)))))
theorem hc_r22_columns : compF Tryd.prog 44 Tryd.f17 = some (ic_r22_columns, [.t 4, .t 5]) := by kernel_rfl

theorem fn_r22_word : Tryd.prog.funcs[r22_word]? = some Tryd.f18 := Tryd.func18
theorem nt_r22_word : Tryd.f18.ntmps = 20 := Tryd.ntmps18
def ic_r22_word : IC := (.seq (io [em 2 (.c (.string ⟨#[]⟩))])
  (.seq (.seq (io [em 3 t0])
  (.block 0 (.seq (io [eb 5 .eql t3 (ci 1), em 4 t5])
  (.cond t4
  (.seq (io [em 2 (.c (.string ⟨#[111, 112, 101, 110]⟩))])
  .ret)
  (.seq (io [eb 7 .eql t3 (ci 2), em 6 t7])
  (.cond t6
  (.seq (io [em 2 (.c (.string ⟨#[112, 97, 121]⟩))])
  .ret)
  (.seq (io [eb 9 .eql t3 (ci 3), em 8 t9])
  (.cond t8
  (.seq (io [em 2 (.c (.string ⟨#[114, 101, 116, 117, 114, 110]⟩))])
  .ret)
  (.seq (io [eb 11 .eql t3 (ci 4), em 10 t11])
  (.cond t10
  (.seq (io [em 2 (.c (.string ⟨#[114, 101, 102, 117, 110, 100]⟩))])
  .ret)
  (.seq (io [eb 13 .eql t3 (ci 5), em 12 t13])
  (.cond t12
  (.seq (io [em 2 (.c (.string ⟨#[119, 97, 105, 118, 101]⟩))])
  .ret)
  (.seq (io [eb 15 .eql t3 (ci 6), em 14 t15])
  (.cond t14
  (.seq (io [em 2 (.c (.string ⟨#[112, 114, 111, 109, 105, 115, 101]⟩))])
  .ret)
  (.seq (io [eb 17 .eql t3 (ci 7), em 16 t17])
  (.cond t16
  (.seq (io [em 2 (.c (.string ⟨#[114, 101, 115, 116, 114, 117, 99, 116, 117, 114, 101]⟩))])
  .ret)
  (.seq (io [eb 19 .eql t3 (ci 8), em 18 t19])
  (.cond t18
  (.seq (io [em 2 (.c (.string ⟨#[100, 97, 121]⟩))])
  .ret)
  .skip))))))))))))))))))
  (.seq (io [em 2 (.c (.string ⟨#[]⟩))])
  .ret)))
theorem hc_r22_word : compF Tryd.prog 20 Tryd.f18 = some (ic_r22_word, [.t 2]) := by kernel_rfl

theorem fn_calendar_Civil : Tryd.prog.funcs[calendar_Civil]? = some Tryd.f19 := Tryd.func19
theorem nt_calendar_Civil : Tryd.f19.ntmps = 73 := Tryd.ntmps19
def ic_calendar_Civil : IC := (.seq (io [.o 2 (.alloc (.st (zc (zc (zc .nil))))), em 3 cf])
  (.seq (.seq (io [em 10 t0, eb 11 .lss t10 (ci 1), em 12 t11, .og 13 12 false (.mv t0), .og 14 12 false (.bin .gtr t13 (ci 3652059)), .o 15 (.pick t12 ct t14)])
  (.cond t15
  (.seq (io [.o 16 (.build (.st (zc (zc (zc .nil)))) []), .n (.sto 3 t2 t16), em 3 cf])
  .ret)
  .skip))
  (.seq (io [em 17 t0, eb 18 .sub t17 (ci 1), em 4 t18])
  (.seq (io [em 19 t4, eb 20 .quo t19 (ci 146097), eb 21 .mul (ci 400) t20, eb 22 .add t21 (ci 1), em 5 t22])
  (.seq (io [em 23 t4, eb 24 .rem t23 (ci 146097), em 4 t24])
  (.seq (io [em 25 t4, eb 26 .quo t25 (ci 36524), .o 27 (.mm false t26 (ci 3)), em 6 t27])
  (.seq (io [em 28 t4, em 29 t6, eb 30 .mul t29 (ci 36524), eb 31 .sub t28 t30, em 4 t31])
  (.seq (io [em 32 t4, eb 33 .quo t32 (ci 1461), em 7 t33])
  (.seq (io [em 34 t4, eb 35 .rem t34 (ci 1461), em 4 t35])
  (.seq (io [em 36 t4, eb 37 .quo t36 (ci 365), .o 38 (.mm false t37 (ci 3)), em 8 t38])
  (.seq (io [em 39 t4, em 40 t8, eb 41 .mul t40 (ci 365), eb 42 .sub t39 t41, em 4 t42])
  (.seq (io [em 43 t5, em 44 t6, eb 45 .mul (ci 100) t44, em 46 t7, eb 47 .mul (ci 4) t46, eb 48 .add t45 t47, em 49 t8, eb 50 .add t48 t49, eb 51 .add t43 t50, em 5 t51])
  (.seq (io [em 9 (ci 1)])
  (.seq (.block 0 (.loop (.seq (.seq (io [em 52 t9, eb 53 .lss t52 (ci 12), em 54 t53, .og 55 54 true (.mv t4), .og 56 54 true (.mv t5), .og 57 54 true (.mv t9), .og 58 54 true (.bin .add t57 (ci 1)), .og 59 54 true (.call 28 [t56, t58]), .og 60 54 true (.bin .geq t55 t59), .o 61 (.pick t54 t60 cf)])
  (.cond t61
  .skip
  (.exit 0)))
  (.block 1 (.ops [em 62 t9, eb 63 .add t62 (ci 1), em 9 t63])))))
  (.seq (io [em 64 t5, em 65 t9, em 66 t4, em 67 t5, em 68 t9, ec 69 28 [t67, t68], eb 70 .sub t66 t69, eb 71 .add t70 (ci 1), .o 72 (.build (.st (zc (zc (zc .nil)))) [(0, 0, 1, t64), (1, 1, 1, t65), (2, 2, 1, t71)]), .n (.sto 3 t2 t72), em 3 ct])
  .ret)))))))))))))))
theorem hc_calendar_Civil : compF Tryd.prog 73 Tryd.f19 = some (ic_calendar_Civil, [.c 2 true 3, .t 3]) := by kernel_rfl

theorem fn_calendar_put : Tryd.prog.funcs[calendar_put]? = some Tryd.f20 := Tryd.func20
theorem nt_calendar_put : Tryd.f20.ntmps = 21 := Tryd.ntmps20
def ic_calendar_put : IC := (.seq (io [em 5 t0, .o 6 (.len t5), eb 7 .sub t6 (ci 1), em 4 t7])
  (.block 0 (.loop (.seq (.seq (io [em 8 t4, eb 9 .geq t8 (ci 0)])
  (.cond t9
  .skip
  (.exit 0)))
  (.seq (.block 1 (.seq (io [em 12 t0, em 13 t4, em 14 t1, eb 15 .rem t14 (ci 10), eb 16 .add (ci 48) t15, .o 17 (.conv .u8 t16), es 18 1 t12 t13, .n (.sto 1 t18 t17)])
  (.ops [em 19 t1, eb 20 .quo t19 (ci 10), em 1 t20])))
  (.ops [em 10 t4, eb 11 .sub t10 (ci 1), em 4 t11]))))))
theorem hc_calendar_put : compF Tryd.prog 21 Tryd.f20 = some (ic_calendar_put, []) := by kernel_rfl

theorem fn_statement_Upto : Tryd.prog.funcs[statement_Upto]? = some Tryd.f21 := Tryd.func21
theorem nt_statement_Upto : Tryd.f21.ntmps = 61 := Tryd.ntmps21
def ic_statement_Upto : IC := (.seq (io [.o 4 (.alloc (.st (.cons (.arr 12 1 fun _ => zi) .nil))), em 5 cf])
  (.seq (io [.o 6 (.alloc (.arr 12 2 fun _ => (.st (.cons (.val (.int .u64 0)) (.cons (.val (.int .u64 0)) .nil)))))])
  (.seq (.seq (io [em 16 t0, .o 17 (.len t16), em 18 (ci 0)])
  (.block 0 (.loop (.seq (io [eb 19 .lss t18 t17])
  (.seq (.cond t19
  .skip
  (.exit 0))
  (.seq (.block 1 (.seq (io [es 20 14 t16 t18, el 21 true 14 t20, .o 8 (.alloc (.st (zc (zc (.cons (.st (.cons (.arr 12 1 fun _ => zi) .nil)) .nil))))), .n (.sto 14 t8 t21)])
  (.seq (.seq (io [ef 22 0 0 t8, el 23 false 1 t22, em 24 t1, eb 25 .gtr t23 t24])
  (.cond t25
  (.exit 1)
  .skip))
  (.seq (io [ef 26 2 2 t8, ef 27 0 0 t26, el 28 true 12 t27, em 29 (ci 0)])
  (.block 2 (.loop (.seq (io [eb 30 .lss t29 (ci 12)])
  (.seq (.cond t30
  .skip
  (.exit 2))
  (.seq (.block 3 (.seq (io [em 31 t29, .o 32 (.ix false 12 1 t28 t29), em 9 t31, em 10 t32])
  (.ops [em 33 t9, em 34 t9, .o 35 (.ixa 12 2 t6 t34), el 36 true 2 t35, em 37 t10, ec 38 29 [t36, t37], .o 39 (.ixa 12 2 t6 t33), .n (.sto 2 t39 t38)])))
  (.ops [eb 40 .add t29 (ci 1), em 29 t40]))))))))))
  (.ops [eb 41 .add t18 (ci 1), em 18 t41])))))))
  (.seq (io [.o 11 (.alloc (.st (.cons (.arr 12 1 fun _ => zi) .nil)))])
  (.seq (.seq (io [el 42 true 24 t6, em 43 (ci 0)])
  (.block 4 (.loop (.seq (io [eb 44 .lss t43 (ci 12)])
  (.seq (.cond t44
  .skip
  (.exit 4))
  (.seq (.block 5 (.seq (io [em 45 t43, .o 46 (.ix true 12 2 t42 t43), .o 13 (.alloc (.st (.cons (.val (.int .u64 0)) (.cons (.val (.int .u64 0)) .nil)))), em 12 t45, .n (.sto 2 t13 t46)])
  (.seq (io [el 48 true 2 t13, ec 49 30 [t48], em 47 t49, ex 50 0 t47, ex 51 1 t47, em 14 t50, em 15 t51])
  (.seq (.seq (io [em 52 t15, .o 53 (.un .not t52)])
  (.cond t53
  (.seq (io [.o 54 (.build (.st (.cons (.arr 12 1 fun _ => zi) .nil)) []), .n (.sto 12 t4 t54), em 5 cf])
  .ret)
  .skip))
  (.ops [em 55 t12, em 56 t14, ef 57 0 0 t11, .o 58 (.ixa 12 1 t57 t55), .n (.sto 1 t58 t56)])))))
  (.ops [eb 59 .add t43 (ci 1), em 43 t59])))))))
  (.seq (io [el 60 true 12 t11, .n (.sto 12 t4 t60), em 5 ct])
  .ret))))))
theorem hc_statement_Upto : compF Tryd.prog 61 Tryd.f21 = some (ic_statement_Upto, [.c 4 true 12, .t 5]) := by kernel_rfl

theorem fn_statement_columns : Tryd.prog.funcs[statement_columns]? = some Tryd.f22 := Tryd.func22
theorem nt_statement_columns : Tryd.f22.ntmps = 51 := Tryd.ntmps22
def ic_statement_columns : IC := (.seq (io [.o 2 (.box t0), em 4 (.c (.string ⟨#[]⟩)), em 5 cf])
  (.seq (io [ef 10 0 0 t2, .o 11 (.ixa 12 1 t10 (ci 4)), el 12 false 1 t11, em 6 t12])
  (.seq (.seq (io [em 13 t6, em 14 t6, .o 15 (.un .neg t14), eb 16 .eql t13 t15, em 17 t16, .og 18 17 true (.mv t6), .og 19 17 true (.bin .neq t18 (ci 0)), .o 20 (.pick t17 t19 cf)])
  (.cond t20
  (.seq (io [em 4 (.c (.string ⟨#[]⟩)), em 5 cf])
  .ret)
  .skip))
  (.seq (io [em 7 (.c (.string ⟨#[]⟩))])
  (.seq (.seq (io [ef 21 0 0 t2, .o 22 (.ixa 12 1 t21 (ci 1)), el 23 false 1 t22, ef 24 0 0 t2, .o 25 (.ixa 12 1 t24 (ci 2)), el 26 false 1 t25, ef 27 0 0 t2, .o 28 (.ixa 12 1 t27 (ci 3)), el 29 false 1 t28, em 30 t6, .o 31 (.un .neg t30), .o 32 (.build (.arr 4 1 fun _ => zi) [(0, 0, 1, t23), (1, 1, 1, t26), (2, 2, 1, t29), (3, 3, 1, t31)]), em 33 (ci 0)])
  (.block 0 (.loop (.seq (io [eb 34 .lss t33 (ci 4)])
  (.seq (.cond t34
  .skip
  (.exit 0))
  (.seq (.block 1 (.seq (io [.o 35 (.ix false 4 1 t32 t33), em 9 t35])
  (.seq (io [em 36 t7, .o 37 (.sop .add t36 (.c (.string ⟨#[32]⟩))), em 7 t37])
  (.seq (.seq (io [em 38 t1, em 39 t38, .og 40 39 true (.mv t9), .og 41 39 true (.bin .gtr t40 (ci 0)), .o 42 (.pick t39 t41 cf)])
  (.cond t42
  (.ops [em 43 t7, .o 44 (.sop .add t43 (.c (.string ⟨#[43]⟩))), em 7 t44])
  .skip))
  (.ops [em 45 t7, em 46 t9, ec 47 31 [t46], .o 48 (.sop .add t45 t47), em 7 t48])))))
  (.ops [eb 49 .add t33 (ci 1), em 33 t49])))))))
  (.seq (io [em 50 t7, em 4 t50, em 5 ct])
  .ret))))))
theorem hc_statement_columns : compF Tryd.prog 51 Tryd.f22 = some (ic_statement_columns, [.t 4, .t 5]) := by kernel_rfl

theorem fn_r2_Civil : Tryd.prog.funcs[r2_Civil]? = some Tryd.f23 := Tryd.func23
theorem nt_r2_Civil : Tryd.f23.ntmps = 48 := Tryd.ntmps23
def ic_r2_Civil : IC := (.seq (io [.o 2 (.alloc (.st (zc (zc (zc .nil))))), em 3 cf])
  (.seq (.seq (io [em 8 t0, ec 9 32 [t8], .o 10 (.un .not t9)])
  (.cond t10
  (.seq (io [.o 11 (.build (.st (zc (zc (zc .nil)))) []), .n (.sto 3 t2 t11), em 3 cf])
  .ret)
  .skip))
  (.seq (io [em 12 t0, eb 13 .sub t12 (ci 1), eb 14 .quo t13 (ci 146097), em 4 t14])
  (.seq (io [em 15 t0, em 16 t4, eb 17 .mul t16 (ci 146097), eb 18 .sub t15 t17, em 5 t18])
  (.seq (io [em 19 t4, eb 20 .mul (ci 400) t19, eb 21 .add t20 (ci 1), em 6 t21])
  (.seq (.block 0 (.loop (.seq (.seq (io [em 22 t5, em 23 t6, ec 24 33 [t23], eb 25 .gtr t22 t24])
  (.cond t25
  .skip
  (.exit 0)))
  (.block 1 (.seq (io [em 26 t5, em 27 t6, ec 28 33 [t27], eb 29 .sub t26 t28, em 5 t29])
  (.ops [em 30 t6, eb 31 .add t30 (ci 1), em 6 t31]))))))
  (.seq (io [em 7 (ci 1)])
  (.seq (.block 2 (.loop (.seq (.seq (io [em 32 t5, em 33 t6, em 34 t7, ec 35 34 [t33, t34], eb 36 .gtr t32 t35])
  (.cond t36
  .skip
  (.exit 2)))
  (.block 3 (.seq (io [em 37 t5, em 38 t6, em 39 t7, ec 40 34 [t38, t39], eb 41 .sub t37 t40, em 5 t41])
  (.ops [em 42 t7, eb 43 .add t42 (ci 1), em 7 t43]))))))
  (.seq (io [em 44 t6, em 45 t7, em 46 t5, .o 47 (.build (.st (zc (zc (zc .nil)))) [(0, 0, 1, t44), (1, 1, 1, t45), (2, 2, 1, t46)]), .n (.sto 3 t2 t47), em 3 ct])
  .ret)))))))))
theorem hc_r2_Civil : compF Tryd.prog 48 Tryd.f23 = some (ic_r2_Civil, [.c 2 true 3, .t 3]) := by kernel_rfl

theorem fn_r2_padded : Tryd.prog.funcs[r2_padded]? = some Tryd.f24 := Tryd.func24
theorem nt_r2_padded : Tryd.f24.ntmps = 15 := Tryd.ntmps24
def ic_r2_padded : IC := (.seq (io [em 4 (.c (.string ⟨#[]⟩))])
  (.seq (io [em 6 t0, ec 7 35 [t6], em 5 t7])
  (.seq (.block 0 (.loop (.seq (.seq (io [em 8 t5, .o 9 (.lens t8), em 10 t1, eb 11 .lss t9 t10])
  (.cond t11
  .skip
  (.exit 0)))
  (.block 1 (.ops [em 12 t5, .o 13 (.sop .add (.c (.string ⟨#[48]⟩)) t12), em 5 t13])))))
  (.seq (io [em 14 t5, em 4 t14])
  .ret))))
theorem hc_r2_padded : compF Tryd.prog 15 Tryd.f24 = some (ic_r2_padded, [.t 4]) := by kernel_rfl

theorem fn_r22_Upto : Tryd.prog.funcs[r22_Upto]? = some Tryd.f25 := Tryd.func25
theorem nt_r22_Upto : Tryd.f25.ntmps = 54 := Tryd.ntmps25
def ic_r22_Upto : IC := (.seq (io [.o 4 (.alloc (.st (.cons (.arr 12 1 fun _ => zi) .nil))), em 5 cf])
  (.seq (io [.o 6 (.alloc (.st (.cons (.arr 12 1 fun _ => zi) .nil)))])
  (.seq (.seq (io [em 7 (ci 0)])
  (.block 0 (.loop (.seq (.seq (io [em 13 t7, eb 14 .lss t13 (ci 12)])
  (.cond t14
  .skip
  (.exit 0)))
  (.seq (.block 1 (.seq (io [em 8 (.c (.slice none 0 0))])
  (.seq (.seq (io [em 9 (ci 0)])
  (.block 2 (.loop (.seq (.seq (io [em 17 t9, em 18 t0, .o 19 (.len t18), eb 20 .lss t17 t19])
  (.cond t20
  .skip
  (.exit 2)))
  (.seq (.block 3 (.seq (io [em 23 t0, em 24 t9, es 25 14 t23 t24, ef 26 0 0 t25, el 27 false 1 t26, em 28 t1, eb 29 .leq t27 t28])
  (.cond t29
  (.ops [em 30 t8, em 31 t0, em 32 t9, em 33 t7, es 34 14 t31 t32, ef 35 2 2 t34, ef 36 0 0 t35, .o 37 (.ixa 12 1 t36 t33), el 38 false 1 t37, .o 39 (.bsl 1 2 zi [(0, 0, 1, t38)]), .o 40 (.app 1 8 2 t30 t39), em 8 t40])
  .skip)))
  (.ops [em 21 t9, eb 22 .add t21 (ci 1), em 9 t22]))))))
  (.seq (io [em 42 t8, ec 43 36 [t42], em 41 t43, ex 44 0 t41, ex 45 1 t41, em 10 t44, em 11 t45])
  (.seq (.seq (io [em 46 t11, .o 47 (.un .not t46)])
  (.cond t47
  (.seq (io [.o 12 (.alloc (.st (.cons (.arr 12 1 fun _ => zi) .nil)))])
  (.seq (io [el 48 true 12 t12, .n (.sto 12 t4 t48), em 5 cf])
  .ret))
  .skip))
  (.ops [em 49 t7, em 50 t10, ef 51 0 0 t6, .o 52 (.ixa 12 1 t51 t49), .n (.sto 1 t52 t50)]))))))
  (.ops [em 15 t7, eb 16 .add t15 (ci 1), em 7 t16]))))))
  (.seq (io [el 53 true 12 t6, .n (.sto 12 t4 t53), em 5 ct])
  .ret))))
theorem hc_r22_Upto : compF Tryd.prog 54 Tryd.f25 = some (ic_r22_Upto, [.c 4 true 12, .t 5]) := by kernel_rfl

theorem fn_r1_Sub : Tryd.prog.funcs[r1_Sub]? = some Tryd.f26 := Tryd.func26
theorem nt_r1_Sub : Tryd.f26.ntmps = 19 := Tryd.ntmps26
def ic_r1_Sub : IC := (.seq (io [em 4 (ci 0), em 5 cf])
  (.seq (io [em 6 t0, ec 7 38 [t6], em 8 t1, ec 9 38 [t8], eb 10 .sub t7 t9, em 11 t0, ec 12 39 [t11], em 13 t1, ec 14 39 [t13], eb 15 .sub t12 t14, ec 16 37 [t10, t15], ex 17 0 t16, ex 18 1 t16, em 4 t17, em 5 t18])
  .ret))
theorem hc_r1_Sub : compF Tryd.prog 19 Tryd.f26 = some (ic_r1_Sub, [.t 4, .t 5]) := by kernel_rfl

theorem fn_r22_tell : Tryd.prog.funcs[r22_tell]? = some Tryd.f27 := Tryd.func27
theorem nt_r22_tell : Tryd.f27.ntmps = 16 := Tryd.ntmps27
def ic_r22_tell : IC := (.seq (io [em 4 (.c (.string ⟨#[]⟩))])
  (.seq (io [em 6 t0, ec 7 40 [t6], em 5 t7])
  (.seq (.seq (io [em 8 t1, em 9 t8, .og 10 9 true (.mv t0), .og 11 9 true (.bin .gtr t10 (ci 0)), .o 12 (.pick t9 t11 cf)])
  (.cond t12
  (.seq (io [em 13 t5, .o 14 (.sop .add (.c (.string ⟨#[43]⟩)) t13), em 4 t14])
  .ret)
  .skip))
  (.seq (io [em 15 t5, em 4 t15])
  .ret))))
theorem hc_r22_tell : compF Tryd.prog 16 Tryd.f27 = some (ic_r22_tell, [.t 4]) := by kernel_rfl

theorem fn_calendar_start : Tryd.prog.funcs[calendar_start]? = some Tryd.f28 := Tryd.func28
theorem nt_calendar_start : Tryd.f28.ntmps = 19 := Tryd.ntmps28
def ic_calendar_start : IC := (.seq (io [em 4 (ci 0)])
  (.seq (io [em 6 t1, eb 7 .sub t6 (ci 1), .o 8 (.ixa 13 1 (.g 1) t7), el 9 false 1 t8, em 5 t9])
  (.seq (.seq (io [em 10 t1, eb 11 .gtr t10 (ci 2), em 12 t11, .og 13 12 true (.mv t0), .og 14 12 true (.call 41 [t13]), .o 15 (.pick t12 t14 cf)])
  (.cond t15
  (.ops [em 16 t5, eb 17 .add t16 (ci 1), em 5 t17])
  .skip))
  (.seq (io [em 18 t5, em 4 t18])
  .ret))))
theorem hc_calendar_start : compF Tryd.prog 19 Tryd.f28 = some (ic_calendar_start, [.t 4]) := by kernel_rfl

theorem fn_statement_wide_plus : Tryd.prog.funcs[statement_wide_plus]? = some Tryd.f29 := Tryd.func29
theorem nt_statement_wide_plus : Tryd.f29.ntmps = 30 := Tryd.ntmps29
def ic_statement_wide_plus : IC := (.seq (io [.o 2 (.box t0), .o 4 (.alloc (.st (.cons (.val (.int .u64 0)) (.cons (.val (.int .u64 0)) .nil))))])
  (.seq (io [ef 10 1 1 t2, el 11 false 1 t10, em 12 t1, .o 13 (.conv .u64 t12), .o 14 (.xcall 42 [t11, t13, (.c (.int .u64 0))]), em 9 t14, ex 15 0 t9, ex 16 1 t9, em 5 t15, em 6 t16])
  (.seq (io [ef 18 0 0 t2, el 19 false 1 t18, em 20 t1, eb 21 .shr t20 (.c (.int .u64 63)), .o 22 (.conv .u64 t21), em 23 t6, .o 24 (.xcall 42 [t19, t22, t23]), em 17 t24, ex 25 0 t17, ex 26 1 t17, em 7 t25, em 8 t26])
  (.seq (io [em 27 t7, em 28 t5, .o 29 (.build (.st (.cons (.val (.int .u64 0)) (.cons (.val (.int .u64 0)) .nil))) [(0, 0, 1, t27), (1, 1, 1, t28)]), .n (.sto 2 t4 t29)])
  .ret))))
theorem hc_statement_wide_plus : compF Tryd.prog 30 Tryd.f29 = some (ic_statement_wide_plus, [.c 4 true 2]) := by kernel_rfl

theorem fn_statement_wide_cents : Tryd.prog.funcs[statement_wide_cents]? = some Tryd.f30 := Tryd.func30
theorem nt_statement_wide_cents : Tryd.f30.ntmps = 15 := Tryd.ntmps30
def ic_statement_wide_cents : IC := (.seq (io [.o 1 (.box t0), em 2 (ci 0), em 3 cf])
  (.seq (io [ef 5 1 1 t1, el 6 false 1 t5, .o 7 (.conv .i64 t6), em 4 t7])
  (.seq (.dops [em 8 t4, em 9 t4, eb 10 .shr t9 (.c (.int .u64 63)), .o 11 (.conv .u64 t10), ef 12 0 0 t1, el 13 false 1 t12, eb 14 .eql t11 t13, em 2 t8, em 3 t14])
  .ret)))
theorem hc_statement_wide_cents : compF Tryd.prog 15 Tryd.f30 = some (ic_statement_wide_cents, [.t 2, .t 3]) := by kernel_rfl

theorem fn_money_Format : Tryd.prog.funcs[money_Format]? = some Tryd.f31 := Tryd.func31
theorem nt_money_Format : Tryd.f31.ntmps = 32 := Tryd.ntmps31
def ic_money_Format : IC := (.seq (io [em 2 (.c (.string ⟨#[]⟩))])
  (.seq (io [em 6 t0, ec 7 43 [t6], em 3 t7])
  (.seq (io [.o 8 (.mks 1 1 5 (.val (.int .u8 0)) (ci 0) (ci 24)), em 4 t8])
  (.seq (.seq (io [em 9 t0, eb 10 .lss t9 (ci 0)])
  (.cond t10
  (.ops [em 11 t4, .o 12 (.bsl 1 5 (.val (.int .u8 0)) [(0, 0, 1, (.c (.int .u8 45)))]), .o 13 (.app 1 1 5 t11 t12), em 4 t13])
  .skip))
  (.seq (io [em 14 t4, em 15 t3, eb 16 .quo t15 (.c (.int .u64 100)), ec 17 44 [t14, t16, (ci 10)], em 4 t17])
  (.seq (io [em 18 t3, eb 19 .rem t18 (.c (.int .u64 100)), .o 20 (.conv .u8 t19), em 5 t20])
  (.seq (io [em 21 t4, em 22 t5, eb 23 .quo t22 (.c (.int .u8 10)), eb 24 .add (.c (.int .u8 48)) t23, em 25 t5, eb 26 .rem t25 (.c (.int .u8 10)), eb 27 .add (.c (.int .u8 48)) t26, .o 28 (.bsl 1 5 (.val (.int .u8 0)) [(0, 0, 1, (.c (.int .u8 46))), (1, 1, 1, t24), (2, 2, 1, t27)]), .o 29 (.app 1 1 5 t21 t28), em 4 t29])
  (.seq (io [em 30 t4, .o 31 (.b2s t30), em 2 t31])
  .ret))))))))
theorem hc_money_Format : compF Tryd.prog 32 Tryd.f31 = some (ic_money_Format, [.t 2]) := by kernel_rfl

theorem fn_r2_isDay : Tryd.prog.funcs[r2_isDay]? = some Tryd.f32 := Tryd.func32
theorem nt_r2_isDay : Tryd.f32.ntmps = 9 := Tryd.ntmps32
def ic_r2_isDay : IC := (.seq (io [em 2 cf])
  (.seq (io [em 3 t0, eb 4 .geq t3 (ci 1), em 5 t4, .og 6 5 true (.mv t0), .og 7 5 true (.bin .leq t6 (ci 3652059)), .o 8 (.pick t5 t7 cf), em 2 t8])
  .ret))
theorem hc_r2_isDay : compF Tryd.prog 9 Tryd.f32 = some (ic_r2_isDay, [.t 2]) := by kernel_rfl

theorem fn_r2_yearLen : Tryd.prog.funcs[r2_yearLen]? = some Tryd.f33 := Tryd.func33
theorem nt_r2_yearLen : Tryd.f33.ntmps = 5 := Tryd.ntmps33
def ic_r2_yearLen : IC := (.seq (io [em 2 (ci 0)])
  (.seq (.seq (io [em 3 t0, ec 4 45 [t3]])
  (.cond t4
  (.seq (io [em 2 (ci 366)])
  .ret)
  .skip))
  (.seq (io [em 2 (ci 365)])
  .ret)))
theorem hc_r2_yearLen : compF Tryd.prog 5 Tryd.f33 = some (ic_r2_yearLen, [.t 2]) := by kernel_rfl

theorem fn_r2_lenOf : Tryd.prog.funcs[r2_lenOf]? = some Tryd.f34 := Tryd.func34
theorem nt_r2_lenOf : Tryd.f34.ntmps = 15 := Tryd.ntmps34
def ic_r2_lenOf : IC := (.seq (io [em 4 (ci 0)])
  (.seq (.seq (io [em 5 t1])
  (.block 0 (.seq (io [eb 7 .eql t5 (ci 2), em 6 t7])
  (.cond t6
  (.seq (.seq (io [em 8 t0, ec 9 45 [t8]])
  (.cond t9
  (.seq (io [em 4 (ci 29)])
  .ret)
  .skip))
  (.seq (io [em 4 (ci 28)])
  .ret))
  (.seq (.seq (io [eb 11 .eql t5 (ci 4), em 10 t11])
  (.cond t10
  .skip
  (.seq (io [eb 12 .eql t5 (ci 6), em 10 t12])
  (.cond t10
  .skip
  (.seq (io [eb 13 .eql t5 (ci 9), em 10 t13])
  (.cond t10
  .skip
  (.ops [eb 14 .eql t5 (ci 11), em 10 t14])))))))
  (.cond t10
  (.seq (io [em 4 (ci 30)])
  .ret)
  .skip))))))
  (.seq (io [em 4 (ci 31)])
  .ret)))
theorem hc_r2_lenOf : compF Tryd.prog 15 Tryd.f34 = some (ic_r2_lenOf, [.t 4]) := by kernel_rfl

theorem fn_strconv_Itoa : Tryd.prog.funcs[strconv_Itoa]? = some Tryd.f35 := Tryd.func35
theorem nt_strconv_Itoa : Tryd.f35.ntmps = 5 := Tryd.ntmps35
def ic_strconv_Itoa : IC := (.seq (io [em 2 (.c (.string ⟨#[]⟩))])
  (.seq (io [em 3 t0, ec 4 46 [t3], em 2 t4])
  .ret))
theorem hc_strconv_Itoa : compF Tryd.prog 5 Tryd.f35 = some (ic_strconv_Itoa, [.t 2]) := by kernel_rfl

theorem fn_r1_Sum : Tryd.prog.funcs[r1_Sum]? = some Tryd.f36 := Tryd.func36
theorem nt_r1_Sum : Tryd.f36.ntmps = 32 := Tryd.ntmps36
def ic_r1_Sum : IC := (.seq (io [em 2 (ci 0), em 3 cf])
  (.seq (io [em 4 (ci 0), em 5 (ci 0)])
  (.seq (.seq (io [em 6 (ci 0)])
  (.block 0 (.loop (.seq (.seq (io [em 7 t6, em 8 t0, .o 9 (.len t8), eb 10 .lss t7 t9])
  (.cond t10
  .skip
  (.exit 0)))
  (.seq (.block 1 (.seq (io [em 13 t4, em 14 t0, em 15 t6, es 16 1 t14 t15, el 17 false 1 t16, ec 18 38 [t17], eb 19 .add t13 t18, em 4 t19])
  (.ops [em 20 t5, em 21 t0, em 22 t6, es 23 1 t21 t22, el 24 false 1 t23, ec 25 39 [t24], eb 26 .add t20 t25, em 5 t26])))
  (.ops [em 11 t6, eb 12 .add t11 (ci 1), em 6 t12]))))))
  (.seq (io [em 27 t4, em 28 t5, ec 29 37 [t27, t28], ex 30 0 t29, ex 31 1 t29, em 2 t30, em 3 t31])
  .ret))))
theorem hc_r1_Sum : compF Tryd.prog 32 Tryd.f36 = some (ic_r1_Sum, [.t 2, .t 3]) := by kernel_rfl

theorem fn_r1_joined : Tryd.prog.funcs[r1_joined]? = some Tryd.f37 := Tryd.func37
theorem nt_r1_joined : Tryd.f37.ntmps = 26 := Tryd.ntmps37
def ic_r1_joined : IC := (.seq (io [em 4 (ci 0), em 5 cf])
  (.seq (io [em 7 t1, eb 8 .shr t7 (.c (.int .u64 32)), em 6 t8])
  (.seq (io [em 9 t0, em 10 t6, eb 11 .add t9 t10, em 0 t11])
  (.seq (io [em 12 t1, em 13 t6, eb 14 .mul t13 (ci 4294967296), eb 15 .sub t12 t14, em 1 t15])
  (.seq (.seq (io [em 16 t0, eb 17 .lss t16 (ci (-2147483648)), em 18 t17, .og 19 18 false (.mv t0), .og 20 18 false (.bin .gtr t19 (ci 2147483647)), .o 21 (.pick t18 ct t20)])
  (.cond t21
  (.seq (io [em 4 (ci 0), em 5 cf])
  .ret)
  .skip))
  (.seq (io [em 22 t0, eb 23 .mul t22 (ci 4294967296), em 24 t1, eb 25 .add t23 t24, em 4 t25, em 5 ct])
  .ret))))))
theorem hc_r1_joined : compF Tryd.prog 26 Tryd.f37 = some (ic_r1_joined, [.t 4, .t 5]) := by kernel_rfl

theorem fn_r1_high : Tryd.prog.funcs[r1_high]? = some Tryd.f38 := Tryd.func38
theorem nt_r1_high : Tryd.f38.ntmps = 5 := Tryd.ntmps38
def ic_r1_high : IC := (.seq (io [em 2 (ci 0)])
  (.seq (io [em 3 t0, eb 4 .shr t3 (.c (.int .u64 32)), em 2 t4])
  .ret))
theorem hc_r1_high : compF Tryd.prog 5 Tryd.f38 = some (ic_r1_high, [.t 2]) := by kernel_rfl

theorem fn_r1_lowOf : Tryd.prog.funcs[r1_lowOf]? = some Tryd.f39 := Tryd.func39
theorem nt_r1_lowOf : Tryd.f39.ntmps = 8 := Tryd.ntmps39
def ic_r1_lowOf : IC := (.seq (io [em 2 (ci 0)])
  (.seq (io [em 3 t0, em 4 t0, ec 5 38 [t4], eb 6 .mul t5 (ci 4294967296), eb 7 .sub t3 t6, em 2 t7])
  .ret))
theorem hc_r1_lowOf : compF Tryd.prog 8 Tryd.f39 = some (ic_r1_lowOf, [.t 2]) := by kernel_rfl

theorem fn_r1_Format : Tryd.prog.funcs[r1_Format]? = some Tryd.f40 := Tryd.func40
theorem nt_r1_Format : Tryd.f40.ntmps = 27 := Tryd.ntmps40
def ic_r1_Format : IC := (.seq (io [em 2 (.c (.string ⟨#[]⟩))])
  (.seq (io [em 6 t0, ec 7 47 [t6], em 3 t7])
  (.seq (io [em 8 t3, eb 9 .rem t8 (.c (.int .u64 100)), em 4 t9])
  (.seq (io [em 10 t3, eb 11 .quo t10 (.c (.int .u64 100)), ec 12 48 [t11, (ci 10)], .o 13 (.sop .add t12 (.c (.string ⟨#[46]⟩))), em 14 t4, eb 15 .quo t14 (.c (.int .u64 10)), ec 16 48 [t15, (ci 10)], .o 17 (.sop .add t13 t16), em 18 t4, eb 19 .rem t18 (.c (.int .u64 10)), ec 20 48 [t19, (ci 10)], .o 21 (.sop .add t17 t20), em 5 t21])
  (.seq (.seq (io [em 22 t0, eb 23 .lss t22 (ci 0)])
  (.cond t23
  (.seq (io [em 24 t5, .o 25 (.sop .add (.c (.string ⟨#[45]⟩)) t24), em 2 t25])
  .ret)
  .skip))
  (.seq (io [em 26 t5, em 2 t26])
  .ret))))))
theorem hc_r1_Format : compF Tryd.prog 27 Tryd.f40 = some (ic_r1_Format, [.t 2]) := by kernel_rfl

theorem fn_calendar_Leap : Tryd.prog.funcs[calendar_Leap]? = some Tryd.f41 := Tryd.func41
theorem nt_calendar_Leap : Tryd.f41.ntmps = 22 := Tryd.ntmps41
def ic_calendar_Leap : IC := (.seq (io [em 2 cf])
  (.seq (.seq (io [em 3 t0, eb 4 .lss t3 (ci 1), em 5 t4, .og 6 5 false (.mv t0), .og 7 5 false (.bin .gtr t6 (ci 9999)), .o 8 (.pick t5 ct t7), em 9 t8, .og 10 9 false (.mv t0), .og 11 9 false (.bin .rem t10 (ci 4)), .og 12 9 false (.bin .neq t11 (ci 0)), .o 13 (.pick t9 ct t12)])
  (.cond t13
  (.seq (io [em 2 cf])
  .ret)
  .skip))
  (.seq (io [em 14 t0, eb 15 .rem t14 (ci 100), eb 16 .neq t15 (ci 0), em 17 t16, .og 18 17 false (.mv t0), .og 19 17 false (.bin .rem t18 (ci 400)), .og 20 17 false (.bin .eql t19 (ci 0)), .o 21 (.pick t17 ct t20), em 2 t21])
  .ret)))
theorem hc_calendar_Leap : compF Tryd.prog 22 Tryd.f41 = some (ic_calendar_Leap, [.t 2]) := by kernel_rfl

theorem fn_money_magnitude : Tryd.prog.funcs[money_magnitude]? = some Tryd.f43 := Tryd.func43
theorem nt_money_magnitude : Tryd.f43.ntmps = 10 := Tryd.ntmps43
def ic_money_magnitude : IC := (.seq (io [em 2 (.c (.int .u64 0))])
  (.seq (.seq (io [em 3 t0, eb 4 .lss t3 (ci 0)])
  (.cond t4
  (.seq (io [em 5 t0, .o 6 (.conv .u64 t5), .o 7 (.un .neg t6), em 2 t7])
  .ret)
  .skip))
  (.seq (io [em 8 t0, .o 9 (.conv .u64 t8), em 2 t9])
  .ret)))
theorem hc_money_magnitude : compF Tryd.prog 10 Tryd.f43 = some (ic_money_magnitude, [.t 2]) := by kernel_rfl

theorem fn_strconv_AppendUint : Tryd.prog.funcs[strconv_AppendUint]? = some Tryd.f44 := Tryd.func44
theorem nt_strconv_AppendUint : Tryd.f44.ntmps = 11 := Tryd.ntmps44
def ic_strconv_AppendUint : IC := (.seq (io [em 6 (.c (.slice none 0 0))])
  (.seq (io [em 7 t0, em 8 t1, em 9 t2, ec 10 49 [t7, t8, t9], em 6 t10])
  .ret))
theorem hc_strconv_AppendUint : compF Tryd.prog 11 Tryd.f44 = some (ic_strconv_AppendUint, [.t 6]) := by kernel_rfl

theorem fn_r2_divides : Tryd.prog.funcs[r2_divides]? = some Tryd.f45 := Tryd.func45
theorem nt_r2_divides : Tryd.f45.ntmps = 16 := Tryd.ntmps45
def ic_r2_divides : IC := (.seq (io [em 2 cf])
  (.seq (io [em 3 t0, eb 4 .rem t3 (ci 4), eb 5 .eql t4 (ci 0), em 6 t5, .og 7 6 true (.mv t0), .og 8 6 true (.bin .rem t7 (ci 100)), .og 9 6 true (.bin .neq t8 (ci 0)), .og 10 6 true (.mv t9), .og 11 10 false (.mv t0), .og 12 10 false (.bin .rem t11 (ci 400)), .og 13 10 false (.bin .eql t12 (ci 0)), .og 14 6 true (.pick t10 ct t13), .o 15 (.pick t6 t14 cf), em 2 t15])
  .ret))
theorem hc_r2_divides : compF Tryd.prog 16 Tryd.f45 = some (ic_r2_divides, [.t 2]) := by kernel_rfl

theorem fn_internal_strconv_Itoa : Tryd.prog.funcs[internal_strconv_Itoa]? = some Tryd.f46 := Tryd.func46
theorem nt_internal_strconv_Itoa : Tryd.f46.ntmps = 5 := Tryd.ntmps46
def ic_internal_strconv_Itoa : IC := (.seq (io [em 2 (.c (.string ⟨#[]⟩))])
  (.seq (io [em 3 t0, ec 4 50 [t3, (ci 10)], em 2 t4])
  .ret))
theorem hc_internal_strconv_Itoa : compF Tryd.prog 5 Tryd.f46 = some (ic_internal_strconv_Itoa, [.t 2]) := by kernel_rfl

theorem fn_r1_size : Tryd.prog.funcs[r1_size]? = some Tryd.f47 := Tryd.func47
theorem nt_r1_size : Tryd.f47.ntmps = 12 := Tryd.ntmps47
def ic_r1_size : IC := (.seq (io [em 2 (.c (.int .u64 0))])
  (.seq (.seq (io [em 3 t0, eb 4 .lss t3 (ci 0)])
  (.cond t4
  (.seq (io [em 5 t0, eb 6 .add t5 (ci 1), .o 7 (.un .neg t6), .o 8 (.conv .u64 t7), eb 9 .add t8 (.c (.int .u64 1)), em 2 t9])
  .ret)
  .skip))
  (.seq (io [em 10 t0, .o 11 (.conv .u64 t10), em 2 t11])
  .ret)))
theorem hc_r1_size : compF Tryd.prog 12 Tryd.f47 = some (ic_r1_size, [.t 2]) := by kernel_rfl

theorem fn_strconv_FormatUint : Tryd.prog.funcs[strconv_FormatUint]? = some Tryd.f48 := Tryd.func48
theorem nt_strconv_FormatUint : Tryd.f48.ntmps = 8 := Tryd.ntmps48
def ic_strconv_FormatUint : IC := (.seq (io [em 4 (.c (.string ⟨#[]⟩))])
  (.seq (io [em 5 t0, em 6 t1, ec 7 51 [t5, t6], em 4 t7])
  .ret))
theorem hc_strconv_FormatUint : compF Tryd.prog 8 Tryd.f48 = some (ic_strconv_FormatUint, [.t 4]) := by kernel_rfl

theorem fn_internal_strconv_AppendUint : Tryd.prog.funcs[internal_strconv_AppendUint]? = some Tryd.f49 := Tryd.func49
theorem nt_internal_strconv_AppendUint : Tryd.f49.ntmps = 36 := Tryd.ntmps49
def ic_internal_strconv_AppendUint : IC := (.seq (io [em 6 (.c (.slice none 0 0))])
  (.seq (.seq (io [em 9 t2, eb 10 .eql t9 (ci 10)])
  (.cond t10
  (.seq (.seq (io [em 11 t1, eb 12 .lss t11 (.c (.int .u64 100))])
  (.cond t12
  (.seq (io [em 13 t0, em 14 t1, .o 15 (.conv .i64 t14), ec 16 52 [t15], .o 17 (.aps 5 t13 t16), em 6 t17])
  .ret)
  .skip))
  (.seq (io [.o 7 (.alloc (.arr 24 1 fun _ => (.val (.int .u8 0))))])
  (.seq (io [em 18 t1, ec 19 53 [t18], em 8 t19])
  (.seq (io [em 20 t8, .o 21 (.sla 24 1 5 t7 .no t20), em 22 t1, ec 23 54 [t21, t22]])
  (.seq (io [em 24 t0, em 25 t8, .o 26 (.sla 24 1 5 t7 .no t25), .o 27 (.app 1 1 5 t24 t26), em 6 t27])
  .ret)))))
  .skip))
  (.seq (io [em 29 t0, em 30 t1, em 31 t2, ec 32 55 [t29, t30, t31, cf, ct], em 28 t32, ex 33 0 t28, ex 34 1 t28, em 0 t33])
  (.seq (io [em 35 t0, em 6 t35])
  .ret))))
theorem hc_internal_strconv_AppendUint : compF Tryd.prog 36 Tryd.f49 = some (ic_internal_strconv_AppendUint, [.t 6]) := by kernel_rfl

theorem fn_internal_strconv_FormatInt : Tryd.prog.funcs[internal_strconv_FormatInt]? = some Tryd.f50 := Tryd.func50
theorem nt_internal_strconv_FormatInt : Tryd.f50.ntmps = 54 := Tryd.ntmps50
def ic_internal_strconv_FormatInt : IC := (.seq (io [em 4 (.c (.string ⟨#[]⟩))])
  (.seq (.seq (io [em 10 t1, eb 11 .eql t10 (ci 10)])
  (.cond t11
  (.seq (.seq (io [em 12 t0, eb 13 .leq (ci 0) t12, em 14 t13, .og 15 14 true (.mv t0), .og 16 14 true (.bin .lss t15 (ci 100)), .o 17 (.pick t14 t16 cf)])
  (.cond t17
  (.seq (io [em 18 t0, ec 19 52 [t18], em 4 t19])
  .ret)
  .skip))
  (.seq (io [.o 5 (.alloc (.arr 24 1 fun _ => (.val (.int .u8 0))))])
  (.seq (io [em 20 t0, .o 21 (.conv .u64 t20), em 6 t21])
  (.seq (.seq (io [em 22 t0, eb 23 .lss t22 (ci 0)])
  (.cond t23
  (.ops [em 24 t6, .o 25 (.un .neg t24), em 6 t25])
  .skip))
  (.seq (io [em 26 t6, ec 27 53 [t26], em 7 t27])
  (.seq (io [em 28 t7, eb 29 .add (ci 1) t28, .o 30 (.sla 24 1 5 t5 (ci 1) t29), em 31 t6, ec 32 54 [t30, t31]])
  (.seq (.seq (io [em 33 t0, eb 34 .lss t33 (ci 0)])
  (.cond t34
  (.seq (io [.o 35 (.ixa 24 1 t5 (ci 0)), .n (.sto 1 t35 (.c (.int .u8 45)))])
  (.seq (io [em 36 t7, eb 37 .add (ci 1) t36, .o 38 (.sla 24 1 5 t5 .no t37), .o 39 (.b2s t38), em 4 t39])
  .ret))
  .skip))
  (.seq (io [em 40 t7, eb 41 .add (ci 1) t40, .o 42 (.sla 24 1 5 t5 (ci 1) t41), .o 43 (.b2s t42), em 4 t43])
  .ret))))))))
  .skip))
  (.seq (io [em 45 t0, .o 46 (.conv .u64 t45), em 47 t1, em 48 t0, eb 49 .lss t48 (ci 0), ec 50 55 [(.c (.slice none 0 0)), t46, t47, t49, cf], em 44 t50, ex 51 0 t44, ex 52 1 t44, em 8 t51, em 9 t52])
  (.seq (io [em 53 t9, em 4 t53])
  .ret))))
theorem hc_internal_strconv_FormatInt : compF Tryd.prog 54 Tryd.f50 = some (ic_internal_strconv_FormatInt, [.t 4]) := by kernel_rfl

theorem fn_internal_strconv_FormatUint : Tryd.prog.funcs[internal_strconv_FormatUint]? = some Tryd.f51 := Tryd.func51
theorem nt_internal_strconv_FormatUint : Tryd.f51.ntmps = 32 := Tryd.ntmps51
def ic_internal_strconv_FormatUint : IC := (.seq (io [em 4 (.c (.string ⟨#[]⟩))])
  (.seq (.seq (io [em 9 t1, eb 10 .eql t9 (ci 10)])
  (.cond t10
  (.seq (.seq (io [em 11 t0, eb 12 .lss t11 (.c (.int .u64 100))])
  (.cond t12
  (.seq (io [em 13 t0, .o 14 (.conv .i64 t13), ec 15 52 [t14], em 4 t15])
  .ret)
  .skip))
  (.seq (io [.o 5 (.alloc (.arr 24 1 fun _ => (.val (.int .u8 0))))])
  (.seq (io [em 16 t0, ec 17 53 [t16], em 6 t17])
  (.seq (io [em 18 t6, .o 19 (.sla 24 1 5 t5 .no t18), em 20 t0, ec 21 54 [t19, t20]])
  (.seq (io [em 22 t6, .o 23 (.sla 24 1 5 t5 .no t22), .o 24 (.b2s t23), em 4 t24])
  .ret)))))
  .skip))
  (.seq (io [em 26 t0, em 27 t1, ec 28 55 [(.c (.slice none 0 0)), t26, t27, cf, cf], em 25 t28, ex 29 0 t25, ex 30 1 t25, em 7 t29, em 8 t30])
  (.seq (io [em 31 t8, em 4 t31])
  .ret))))
theorem hc_internal_strconv_FormatUint : compF Tryd.prog 32 Tryd.f51 = some (ic_internal_strconv_FormatUint, [.t 4]) := by kernel_rfl

theorem fn_internal_strconv_small : Tryd.prog.funcs[internal_strconv_small]? = some Tryd.f52 := Tryd.func52
theorem nt_internal_strconv_small : Tryd.f52.ntmps = 15 := Tryd.ntmps52
def ic_internal_strconv_small : IC := (.seq (io [em 2 (.c (.string ⟨#[]⟩))])
  (.seq (.seq (io [em 3 t0, eb 4 .lss t3 (ci 10)])
  (.cond t4
  (.seq (io [em 5 t0, em 6 t0, eb 7 .add t6 (ci 1), .o 8 (.sls (.c (.string digs)) t5 t7), em 2 t8])
  .ret)
  .skip))
  (.seq (io [em 9 t0, eb 10 .mul t9 (ci 2), em 11 t0, eb 12 .mul t11 (ci 2), eb 13 .add t12 (ci 2), .o 14 (.sls (.c (.string smalls)) t10 t13), em 2 t14])
  .ret)))
theorem hc_internal_strconv_small : compF Tryd.prog 15 Tryd.f52 = some (ic_internal_strconv_small, [.t 2]) := by kernel_rfl

theorem fn_internal_strconv_numDigits : Tryd.prog.funcs[internal_strconv_numDigits]? = some Tryd.f53 := Tryd.func53
theorem nt_internal_strconv_numDigits : Tryd.f53.ntmps = 15 := Tryd.ntmps53
def ic_internal_strconv_numDigits : IC := (.seq (io [em 2 (ci 0)])
  (.seq (io [em 4 t0, ec 5 57 [t4], ec 6 56 [t5], em 3 t6])
  (.seq (io [em 7 t3, em 8 t0, em 9 t3, .o 10 (.ixa 20 1 (.g 2) t9), el 11 false 1 t10, eb 12 .geq t8 t11, ec 13 58 [t12], eb 14 .add t7 t13, em 2 t14])
  .ret)))
theorem hc_internal_strconv_numDigits : compF Tryd.prog 15 Tryd.f53 = some (ic_internal_strconv_numDigits, [.t 2]) := by kernel_rfl

theorem fn_internal_strconv_formatBase10 : Tryd.prog.funcs[internal_strconv_formatBase10]? = some Tryd.f54 := Tryd.func54
theorem nt_internal_strconv_formatBase10 : Tryd.f54.ntmps = 167 := Tryd.ntmps54
def ic_internal_strconv_formatBase10 : IC := (.seq (io [em 17 t0, .o 18 (.len t17), em 4 t18])
  (.seq (.block 0 (.loop (.seq (.seq (io [em 19 t4, eb 20 .geq t19 (ci 8)])
  (.cond t20
  .skip
  (.exit 0)))
  (.block 1 (.seq (io [em 21 t1, eb 22 .rem t21 (.c (.int .u64 100000000)), .o 23 (.conv .u32 t22), em 5 t23])
  (.seq (io [em 24 t1, eb 25 .quo t24 (.c (.int .u64 100000000)), em 1 t25])
  (.seq (io [em 26 t5, eb 27 .quo t26 (.c (.int .u32 10000)), em 28 t5, eb 29 .rem t28 (.c (.int .u32 10000)), em 6 t27, em 7 t29])
  (.seq (io [em 30 t7, eb 31 .quo t30 (.c (.int .u32 100)), eb 32 .mul t31 (.c (.int .u32 2)), em 33 t7, eb 34 .rem t33 (.c (.int .u32 100)), eb 35 .mul t34 (.c (.int .u32 2)), em 8 t32, em 9 t35])
  (.seq (io [em 36 t6, eb 37 .quo t36 (.c (.int .u32 100)), eb 38 .mul t37 (.c (.int .u32 2)), em 39 t6, eb 40 .rem t39 (.c (.int .u32 100)), eb 41 .mul t40 (.c (.int .u32 2)), em 10 t38, em 11 t41])
  (.seq (.dops [em 42 t0, em 43 t4, eb 44 .sub t43 (ci 1), em 45 t0, em 46 t4, eb 47 .sub t46 (ci 2), em 48 t9, eb 49 .add t48 (.c (.int .u32 1)), .o 50 (.ixb (.c (.string smalls)) t49), em 51 t9, .o 52 (.ixb (.c (.string smalls)) t51), es 53 1 t42 t44, .n (.sto 1 t53 t50), es 54 1 t45 t47, .n (.sto 1 t54 t52)])
  (.seq (.dops [em 55 t0, em 56 t4, eb 57 .sub t56 (ci 3), em 58 t0, em 59 t4, eb 60 .sub t59 (ci 4), em 61 t8, eb 62 .add t61 (.c (.int .u32 1)), .o 63 (.ixb (.c (.string smalls)) t62), em 64 t8, .o 65 (.ixb (.c (.string smalls)) t64), es 66 1 t55 t57, .n (.sto 1 t66 t63), es 67 1 t58 t60, .n (.sto 1 t67 t65)])
  (.seq (.dops [em 68 t0, em 69 t4, eb 70 .sub t69 (ci 5), em 71 t0, em 72 t4, eb 73 .sub t72 (ci 6), em 74 t11, eb 75 .add t74 (.c (.int .u32 1)), .o 76 (.ixb (.c (.string smalls)) t75), em 77 t11, .o 78 (.ixb (.c (.string smalls)) t77), es 79 1 t68 t70, .n (.sto 1 t79 t76), es 80 1 t71 t73, .n (.sto 1 t80 t78)])
  (.seq (.dops [em 81 t0, em 82 t4, eb 83 .sub t82 (ci 7), em 84 t0, em 85 t4, eb 86 .sub t85 (ci 8), em 87 t10, eb 88 .add t87 (.c (.int .u32 1)), .o 89 (.ixb (.c (.string smalls)) t88), em 90 t10, .o 91 (.ixb (.c (.string smalls)) t90), es 92 1 t81 t83, .n (.sto 1 t92 t89), es 93 1 t84 t86, .n (.sto 1 t93 t91)])
  (.ops [em 94 t4, eb 95 .sub t94 (ci 8), em 4 t95]))))))))))))))
  (.seq (io [em 96 t1, .o 97 (.conv .u32 t96), em 12 t97])
  (.seq (.seq (io [em 98 t4, eb 99 .geq t98 (ci 4)])
  (.cond t99
  (.seq (io [em 100 t12, eb 101 .rem t100 (.c (.int .u32 10000)), em 13 t101])
  (.seq (io [em 102 t12, eb 103 .quo t102 (.c (.int .u32 10000)), em 12 t103])
  (.seq (io [em 104 t13, eb 105 .quo t104 (.c (.int .u32 100)), eb 106 .mul t105 (.c (.int .u32 2)), em 107 t13, eb 108 .rem t107 (.c (.int .u32 100)), eb 109 .mul t108 (.c (.int .u32 2)), em 14 t106, em 15 t109])
  (.seq (.dops [em 110 t0, em 111 t4, eb 112 .sub t111 (ci 1), em 113 t0, em 114 t4, eb 115 .sub t114 (ci 2), em 116 t15, eb 117 .add t116 (.c (.int .u32 1)), .o 118 (.ixb (.c (.string smalls)) t117), em 119 t15, .o 120 (.ixb (.c (.string smalls)) t119), es 121 1 t110 t112, .n (.sto 1 t121 t118), es 122 1 t113 t115, .n (.sto 1 t122 t120)])
  (.seq (.dops [em 123 t0, em 124 t4, eb 125 .sub t124 (ci 3), em 126 t0, em 127 t4, eb 128 .sub t127 (ci 4), em 129 t14, eb 130 .add t129 (.c (.int .u32 1)), .o 131 (.ixb (.c (.string smalls)) t130), em 132 t14, .o 133 (.ixb (.c (.string smalls)) t132), es 134 1 t123 t125, .n (.sto 1 t134 t131), es 135 1 t126 t128, .n (.sto 1 t135 t133)])
  (.ops [em 136 t4, eb 137 .sub t136 (ci 4), em 4 t137]))))))
  .skip))
  (.seq (.seq (io [em 138 t4, eb 139 .geq t138 (ci 2)])
  (.cond t139
  (.seq (io [em 140 t12, eb 141 .rem t140 (.c (.int .u32 100)), eb 142 .mul t141 (.c (.int .u32 2)), em 16 t142])
  (.seq (io [em 143 t12, eb 144 .quo t143 (.c (.int .u32 100)), em 12 t144])
  (.seq (.dops [em 145 t0, em 146 t4, eb 147 .sub t146 (ci 1), em 148 t0, em 149 t4, eb 150 .sub t149 (ci 2), em 151 t16, eb 152 .add t151 (.c (.int .u32 1)), .o 153 (.ixb (.c (.string smalls)) t152), em 154 t16, .o 155 (.ixb (.c (.string smalls)) t154), es 156 1 t145 t147, .n (.sto 1 t156 t153), es 157 1 t148 t150, .n (.sto 1 t157 t155)])
  (.ops [em 158 t4, eb 159 .sub t158 (ci 2), em 4 t159]))))
  .skip))
  (.seq (io [em 160 t4, eb 161 .gtr t160 (ci 0)])
  (.cond t161
  (.ops [em 162 t0, em 163 t12, eb 164 .add (.c (.int .u32 48)) t163, .o 165 (.conv .u8 t164), es 166 1 t162 (ci 0), .n (.sto 1 t166 t165)])
  .skip)))))))
theorem hc_internal_strconv_formatBase10 : compF Tryd.prog 167 Tryd.f54 = some (ic_internal_strconv_formatBase10, []) := by kernel_rfl

theorem fn_internal_strconv_formatBits : Tryd.prog.funcs[internal_strconv_formatBits]? = some Tryd.f55 := Tryd.func55
theorem nt_internal_strconv_formatBits : Tryd.f55.ntmps = 102 := Tryd.ntmps55
def ic_internal_strconv_formatBits : IC := (.seq (io [em 10 (.c (.slice none 0 0)), em 11 (.c (.string ⟨#[]⟩))])
  (.seq (.seq (io [em 19 t2, eb 20 .lss t19 (ci 2), em 21 t20, .og 22 21 false (.mv t2), .og 23 21 false (.bin .eql t22 (ci 10)), .o 24 (.pick t21 ct t23), em 25 t24, .og 26 25 false (.mv t2), .og 27 25 false (.bin .gtr t26 (ci 36)), .o 28 (.pick t25 ct t27)])
  (.cond t28
  (.ops [.o 29 (.dead), .n (.dead)])
  .skip))
  (.seq (io [.o 12 (.alloc (.arr 65 1 fun _ => (.val (.int .u8 0))))])
  (.seq (io [em 13 (ci 65)])
  (.seq (.seq (io [em 30 t3])
  (.cond t30
  (.ops [em 31 t1, .o 32 (.un .neg t31), em 1 t32])
  .skip))
  (.seq (.seq (io [em 33 t2, ec 34 59 [t33]])
  (.cond t34
  (.seq (io [em 35 t2, .o 36 (.conv .u64 t35), ec 37 60 [t36], .o 38 (.conv .u64 t37), em 14 t38])
  (.seq (io [em 39 t2, .o 40 (.conv .u64 t39), em 15 t40])
  (.seq (io [em 41 t2, .o 42 (.conv .u64 t41), eb 43 .sub t42 (.c (.int .u64 1)), em 16 t43])
  (.seq (.block 0 (.loop (.seq (.seq (io [em 44 t1, em 45 t15, eb 46 .geq t44 t45])
  (.cond t46
  .skip
  (.exit 0)))
  (.block 1 (.seq (io [em 47 t13, eb 48 .sub t47 (ci 1), em 13 t48])
  (.seq (io [em 49 t13, em 50 t1, em 51 t16, eb 52 .and t50 t51, .o 53 (.ixb (.c (.string digs)) t52), .o 54 (.ixa 65 1 t12 t49), .n (.sto 1 t54 t53)])
  (.ops [em 55 t1, em 56 t14, eb 57 .shr t55 t56, em 1 t57])))))))
  (.seq (io [em 58 t13, eb 59 .sub t58 (ci 1), em 13 t59])
  (.ops [em 60 t13, em 61 t1, .o 62 (.ixb (.c (.string digs)) t61), .o 63 (.ixa 65 1 t12 t60), .n (.sto 1 t63 t62)]))))))
  (.seq (io [em 64 t2, .o 65 (.conv .u64 t64), em 17 t65])
  (.seq (.block 2 (.loop (.seq (.seq (io [em 66 t1, em 67 t17, eb 68 .geq t66 t67])
  (.cond t68
  .skip
  (.exit 2)))
  (.block 3 (.seq (io [em 69 t13, eb 70 .sub t69 (ci 1), em 13 t70])
  (.seq (io [em 71 t1, em 72 t17, eb 73 .quo t71 t72, em 18 t73])
  (.seq (io [em 74 t13, em 75 t1, em 76 t18, em 77 t17, eb 78 .mul t76 t77, eb 79 .sub t75 t78, .o 80 (.ixb (.c (.string digs)) t79), .o 81 (.ixa 65 1 t12 t74), .n (.sto 1 t81 t80)])
  (.ops [em 82 t18, em 1 t82]))))))))
  (.seq (io [em 83 t13, eb 84 .sub t83 (ci 1), em 13 t84])
  (.ops [em 85 t13, em 86 t1, .o 87 (.ixb (.c (.string digs)) t86), .o 88 (.ixa 65 1 t12 t85), .n (.sto 1 t88 t87)]))))))
  (.seq (.seq (io [em 89 t3])
  (.cond t89
  (.seq (io [em 90 t13, eb 91 .sub t90 (ci 1), em 13 t91])
  (.ops [em 92 t13, .o 93 (.ixa 65 1 t12 t92), .n (.sto 1 t93 (.c (.int .u8 45)))]))
  .skip))
  (.seq (.seq (io [em 94 t4])
  (.cond t94
  (.seq (io [em 95 t0, em 96 t13, .o 97 (.sla 65 1 5 t12 t96 .no), .o 98 (.app 1 1 5 t95 t97), em 10 t98])
  .ret)
  .skip))
  (.seq (io [em 99 t13, .o 100 (.sla 65 1 5 t12 t99 .no), .o 101 (.b2s t100), em 11 t101])
  .ret)))))))))
theorem hc_internal_strconv_formatBits : compF Tryd.prog 102 Tryd.f55 = some (ic_internal_strconv_formatBits, [.t 10, .t 11]) := by kernel_rfl

theorem fn_internal_strconv_log10Pow2 : Tryd.prog.funcs[internal_strconv_log10Pow2]? = some Tryd.f56 := Tryd.func56
theorem nt_internal_strconv_log10Pow2 : Tryd.f56.ntmps = 6 := Tryd.ntmps56
def ic_internal_strconv_log10Pow2 : IC := (.seq (io [em 2 (ci 0)])
  (.seq (io [em 3 t0, eb 4 .mul t3 (ci 78913), eb 5 .shr t4 (.c (.int .u64 18)), em 2 t5])
  .ret))
theorem hc_internal_strconv_log10Pow2 : compF Tryd.prog 6 Tryd.f56 = some (ic_internal_strconv_log10Pow2, [.t 2]) := by kernel_rfl

theorem fn_math_bits_Len64 : Tryd.prog.funcs[math_bits_Len64]? = some Tryd.f57 := Tryd.func57
theorem nt_math_bits_Len64 : Tryd.f57.ntmps = 25 := Tryd.ntmps57
def ic_math_bits_Len64 : IC := (.seq (io [em 2 (ci 0)])
  (.seq (.seq (io [em 3 t0, eb 4 .geq t3 (.c (.int .u64 4294967296))])
  (.cond t4
  (.seq (io [em 5 t0, eb 6 .shr t5 (.c (.int .u64 32)), em 0 t6])
  (.ops [em 2 (ci 32)]))
  .skip))
  (.seq (.seq (io [em 7 t0, eb 8 .geq t7 (.c (.int .u64 65536))])
  (.cond t8
  (.seq (io [em 9 t0, eb 10 .shr t9 (.c (.int .u64 16)), em 0 t10])
  (.ops [em 11 t2, eb 12 .add t11 (ci 16), em 2 t12]))
  .skip))
  (.seq (.seq (io [em 13 t0, eb 14 .geq t13 (.c (.int .u64 256))])
  (.cond t14
  (.seq (io [em 15 t0, eb 16 .shr t15 (.c (.int .u64 8)), em 0 t16])
  (.ops [em 17 t2, eb 18 .add t17 (ci 8), em 2 t18]))
  .skip))
  (.seq (io [em 19 t2, em 20 t0, .o 21 (.conv .u8 t20), .o 22 (.ixb (.c (.string ⟨#[0, 1, 2, 2, 3, 3, 3, 3, 4, 4, 4, 4, 4, 4, 4, 4, 5, 5, 5, 5, 5, 5, 5, 5, 5, 5, 5, 5, 5, 5, 5, 5, 6, 6, 6, 6, 6, 6, 6, 6, 6, 6, 6, 6, 6, 6, 6, 6, 6, 6, 6, 6, 6, 6, 6, 6, 6, 6, 6, 6, 6, 6, 6, 6, 7, 7, 7, 7, 7, 7, 7, 7, 7, 7, 7, 7, 7, 7, 7, 7, 7, 7, 7, 7, 7, 7, 7, 7, 7, 7, 7, 7, 7, 7, 7, 7, 7, 7, 7, 7, 7, 7, 7, 7, 7, 7, 7, 7, 7, 7, 7, 7, 7, 7, 7, 7, 7, 7, 7, 7, 7, 7, 7, 7, 7, 7, 7, 7, 8, 8, 8, 8, 8, 8, 8, 8, 8, 8, 8, 8, 8, 8, 8, 8, 8, 8, 8, 8, 8, 8, 8, 8, 8, 8, 8, 8, 8, 8, 8, 8, 8, 8, 8, 8, 8, 8, 8, 8, 8, 8, 8, 8, 8, 8, 8, 8, 8, 8, 8, 8, 8, 8, 8, 8, 8, 8, 8, 8, 8, 8, 8, 8, 8, 8, 8, 8, 8, 8, 8, 8, 8, 8, 8, 8, 8, 8, 8, 8, 8, 8, 8, 8, 8, 8, 8, 8, 8, 8, 8, 8, 8, 8, 8, 8, 8, 8, 8, 8, 8, 8, 8, 8, 8, 8, 8, 8, 8, 8, 8, 8, 8, 8, 8, 8, 8, 8, 8, 8, 8, 8, 8, 8, 8, 8, 8, 8]⟩)) t21), .o 23 (.conv .i64 t22), eb 24 .add t19 t23, em 2 t24])
  .ret)))))
theorem hc_math_bits_Len64 : compF Tryd.prog 25 Tryd.f57 = some (ic_math_bits_Len64, [.t 2]) := by kernel_rfl

theorem fn_internal_strconv_bool2_int_ : Tryd.prog.funcs[internal_strconv_bool2_int_]? = some Tryd.f58 := Tryd.func58
theorem nt_internal_strconv_bool2_int_ : Tryd.f58.ntmps = 4 := Tryd.ntmps58
def ic_internal_strconv_bool2_int_ : IC := (.seq (io [em 2 (ci 0)])
  (.seq (.seq (io [em 3 t0])
  (.cond t3
  (.seq (io [em 2 (ci 1)])
  .ret)
  .skip))
  (.seq (io [em 2 (ci 0)])
  .ret)))
theorem hc_internal_strconv_bool2_int_ : compF Tryd.prog 4 Tryd.f58 = some (ic_internal_strconv_bool2_int_, [.t 2]) := by kernel_rfl

theorem fn_internal_strconv_isPowerOfTwo : Tryd.prog.funcs[internal_strconv_isPowerOfTwo]? = some Tryd.f59 := Tryd.func59
theorem nt_internal_strconv_isPowerOfTwo : Tryd.f59.ntmps = 8 := Tryd.ntmps59
def ic_internal_strconv_isPowerOfTwo : IC := (.seq (io [em 2 cf])
  (.seq (io [em 3 t0, em 4 t0, eb 5 .sub t4 (ci 1), eb 6 .and t3 t5, eb 7 .eql t6 (ci 0), em 2 t7])
  .ret))
theorem hc_internal_strconv_isPowerOfTwo : compF Tryd.prog 8 Tryd.f59 = some (ic_internal_strconv_isPowerOfTwo, [.t 2]) := by kernel_rfl

theorem fn_math_bits_TrailingZeros : Tryd.prog.funcs[math_bits_TrailingZeros]? = some Tryd.f60 := Tryd.func60
theorem nt_math_bits_TrailingZeros : Tryd.f60.ntmps = 8 := Tryd.ntmps60
def ic_math_bits_TrailingZeros : IC := (.seq (io [em 2 (ci 0)])
  (.seq (.cond cf
  (.seq (io [em 3 t0, .o 4 (.conv .u32 t3), ec 5 61 [t4], em 2 t5])
  .ret)
  .skip)
  (.seq (io [em 6 t0, ec 7 62 [t6], em 2 t7])
  .ret)))
theorem hc_math_bits_TrailingZeros : compF Tryd.prog 8 Tryd.f60 = some (ic_math_bits_TrailingZeros, [.t 2]) := by kernel_rfl

theorem fn_math_bits_TrailingZeros32 : Tryd.prog.funcs[math_bits_TrailingZeros32]? = some Tryd.f61 := Tryd.func61
theorem nt_math_bits_TrailingZeros32 : Tryd.f61.ntmps = 14 := Tryd.ntmps61
def ic_math_bits_TrailingZeros32 : IC := (.seq (io [em 2 (ci 0)])
  (.seq (.seq (io [em 3 t0, eb 4 .eql t3 (.c (.int .u32 0))])
  (.cond t4
  (.seq (io [em 2 (ci 32)])
  .ret)
  .skip))
  (.seq (io [em 5 t0, em 6 t0, .o 7 (.un .neg t6), eb 8 .and t5 t7, eb 9 .mul t8 (.c (.int .u32 125613361)), eb 10 .shr t9 (.c (.int .u64 27)), .o 11 (.ixa 32 1 (.g 3) t10), el 12 false 1 t11, .o 13 (.conv .i64 t12), em 2 t13])
  .ret)))
theorem hc_math_bits_TrailingZeros32 : compF Tryd.prog 14 Tryd.f61 = some (ic_math_bits_TrailingZeros32, [.t 2]) := by kernel_rfl

theorem fn_math_bits_TrailingZeros64 : Tryd.prog.funcs[math_bits_TrailingZeros64]? = some Tryd.f62 := Tryd.func62
theorem nt_math_bits_TrailingZeros64 : Tryd.f62.ntmps = 14 := Tryd.ntmps62
def ic_math_bits_TrailingZeros64 : IC := (.seq (io [em 2 (ci 0)])
  (.seq (.seq (io [em 3 t0, eb 4 .eql t3 (.c (.int .u64 0))])
  (.cond t4
  (.seq (io [em 2 (ci 64)])
  .ret)
  .skip))
  (.seq (io [em 5 t0, em 6 t0, .o 7 (.un .neg t6), eb 8 .and t5 t7, eb 9 .mul t8 (.c (.int .u64 285870213051353865)), eb 10 .shr t9 (.c (.int .u64 58)), .o 11 (.ixa 64 1 (.g 4) t10), el 12 false 1 t11, .o 13 (.conv .i64 t12), em 2 t13])
  .ret)))
theorem hc_math_bits_TrailingZeros64 : compF Tryd.prog 14 Tryd.f62 = some (ic_math_bits_TrailingZeros64, [.t 2]) := by kernel_rfl

end Go.Proofs.YtoglphkkhhjodaaDoor
