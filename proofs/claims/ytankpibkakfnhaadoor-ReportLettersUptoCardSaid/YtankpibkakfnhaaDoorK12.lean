/- The given functions as the walk reads them: each constant is what the program's text comes to. No condition. -/
import Derived.Test.YtankpibkakfnhaaDoorK08
import Derived.Test.YtankpibkakfnhaaDoorK10
import Derived.Test.YtankpibkakfnhaaDoorK11
import Derived.Test.YtankpibkakfnhaaDoorProg
import Derived.KernelRfl
set_option linter.all false
namespace Go.Proofs.YtankpibkakfnhaaDoor
open Go Ar
set_option linter.unusedVariables false
set_option maxRecDepth 100000

def aheadL : List Int := [0, 31, 59, 90, 120, 151, 181, 212, 243, 273, 304, 334, 365]
def p10L : List Int := [1, 10, 100, 1000, 10000, 100000, 1000000, 10000000, 100000000, 1000000000, 10000000000, 100000000000, 1000000000000, 10000000000000, 100000000000000, 1000000000000000, 10000000000000000, 100000000000000000, 1000000000000000000, 10000000000000000000]
/-- What is left open of the variables: MaxLen, and the types of two errors. -/
structure GV where
  n : Int
  a : TypeId
  b : TypeId
abbrev gl0 (ml : GV) : Nat → AV := fun k => match k with
  | 0 => .elt 1 13 (fun _ => .arr 13 1 (fun i => I (at_ aheadL i))) 0 []
  | 1 => .elt 1 1 (fun _ => I ml.n) 0 []
  | 2 => .elt 1 20 (fun _ => .arr 20 1 (fun i => U (at_ p10L i))) 0 []
  | 3 => .elt 1 1 (fun _ => .ifc ml.a .any) 0 []
  | 4 => .elt 1 1 (fun _ => .ifc ml.b .any) 0 []
  | _ => .any
theorem gl0n (ml : GV) : ∀ i, nf (gl0 ml i) := fun i => by
  match i with
  | 0 => exact fun _ _ => trivial
  | 1 => exact fun _ => trivial
  | 2 => exact fun _ _ => trivial
  | 3 => exact fun _ => trivial
  | 4 => exact fun _ => trivial
  | _ + 5 => trivial
theorem mixed : Tryd.prog.follows .mixedOrders = true := rfl

abbrev zi : AV := .val (.int .i64 0)
abbrev zs : AV := .val (.slice none 0 0)
abbrev zc (a : AV) : AV := .cons zi a
abbrev zf (a : AV) : AV := .cons (.val (.bool false)) a
abbrev ci (n : Int) : X := .c (.int .i64 n)
abbrev cf : X := .c (.bool false)
abbrev ct : X := .c (.bool true)
abbrev em (d : Nat) (x : X) : Ent := .o d (.mv x)
abbrev eb (d : Nat) (b : BinOp) (x y : X) : Ent := .o d (.bin b x y)
abbrev el (d : Nat) (g : Bool) (n : Nat) (x : X) : Ent := .o d (.ld g n x)
abbrev ef (d k o : Nat) (x : X) : Ent := .o d (.fa k o x)
abbrev ex (d k : Nat) (x : X) : Ent := .o d (.ext k x)
abbrev es (d e : Nat) (x i : X) : Ent := .o d (.ixs e x i)
abbrev ec (d f : Nat) (l : List X) : Ent := .o d (.call f l)
abbrev ey (d f : Nat) (l : List X) : Ent := .o d (.callx f l)
abbrev io (l : List Ent) : IC := .ops l
abbrev t0 : X := .t 0
abbrev t1 : X := .t 1
abbrev t2 : X := .t 2
abbrev t3 : X := .t 3
abbrev t4 : X := .t 4
abbrev t5 : X := .t 5
abbrev t6 : X := .t 6
abbrev t7 : X := .t 7
abbrev t8 : X := .t 8
abbrev t9 : X := .t 9
abbrev t10 : X := .t 10
abbrev t11 : X := .t 11
abbrev t12 : X := .t 12
abbrev t13 : X := .t 13
abbrev t14 : X := .t 14
abbrev t15 : X := .t 15
abbrev t16 : X := .t 16
abbrev t17 : X := .t 17
abbrev t18 : X := .t 18
abbrev t19 : X := .t 19
abbrev t20 : X := .t 20
abbrev t21 : X := .t 21
abbrev t22 : X := .t 22
abbrev t23 : X := .t 23
abbrev t24 : X := .t 24
abbrev t25 : X := .t 25
abbrev t26 : X := .t 26
abbrev t27 : X := .t 27
abbrev t28 : X := .t 28
abbrev t29 : X := .t 29
abbrev t30 : X := .t 30
abbrev t31 : X := .t 31
abbrev t32 : X := .t 32
abbrev t33 : X := .t 33
abbrev t34 : X := .t 34
abbrev t35 : X := .t 35
abbrev t36 : X := .t 36
abbrev t37 : X := .t 37
abbrev t38 : X := .t 38
abbrev t39 : X := .t 39
abbrev t40 : X := .t 40
abbrev t41 : X := .t 41
abbrev t42 : X := .t 42
abbrev t43 : X := .t 43
abbrev t44 : X := .t 44
abbrev t45 : X := .t 45
abbrev t46 : X := .t 46
abbrev t47 : X := .t 47
abbrev t48 : X := .t 48
abbrev t49 : X := .t 49
abbrev t50 : X := .t 50
abbrev t51 : X := .t 51
abbrev t52 : X := .t 52
abbrev t53 : X := .t 53
abbrev t54 : X := .t 54
abbrev t55 : X := .t 55
abbrev t56 : X := .t 56
abbrev t57 : X := .t 57
abbrev t58 : X := .t 58
abbrev t59 : X := .t 59
abbrev t60 : X := .t 60
abbrev t61 : X := .t 61
abbrev t62 : X := .t 62
abbrev t63 : X := .t 63
abbrev t64 : X := .t 64
abbrev t65 : X := .t 65
abbrev t66 : X := .t 66
abbrev t67 : X := .t 67
abbrev t68 : X := .t 68
abbrev t69 : X := .t 69
abbrev t70 : X := .t 70
abbrev t71 : X := .t 71
abbrev t72 : X := .t 72
abbrev t73 : X := .t 73
abbrev t74 : X := .t 74
abbrev t75 : X := .t 75
abbrev t76 : X := .t 76
abbrev t77 : X := .t 77
abbrev t78 : X := .t 78
abbrev t79 : X := .t 79
abbrev t80 : X := .t 80
abbrev t81 : X := .t 81
abbrev t82 : X := .t 82
abbrev t83 : X := .t 83
abbrev t84 : X := .t 84
abbrev t85 : X := .t 85
abbrev t86 : X := .t 86
abbrev t87 : X := .t 87
abbrev t88 : X := .t 88
abbrev t89 : X := .t 89
abbrev t90 : X := .t 90
abbrev t91 : X := .t 91
abbrev t92 : X := .t 92
abbrev t93 : X := .t 93
abbrev t94 : X := .t 94
abbrev t95 : X := .t 95
abbrev t96 : X := .t 96
abbrev t97 : X := .t 97
abbrev t98 : X := .t 98
abbrev t99 : X := .t 99
abbrev t100 : X := .t 100
abbrev t101 : X := .t 101
abbrev t102 : X := .t 102
abbrev t103 : X := .t 103
abbrev t104 : X := .t 104
abbrev t105 : X := .t 105
abbrev t106 : X := .t 106
abbrev t107 : X := .t 107
abbrev t108 : X := .t 108
abbrev t109 : X := .t 109
abbrev t110 : X := .t 110
abbrev t111 : X := .t 111
abbrev t112 : X := .t 112
abbrev t113 : X := .t 113
abbrev t114 : X := .t 114
abbrev t115 : X := .t 115
abbrev t116 : X := .t 116
abbrev t117 : X := .t 117
abbrev t118 : X := .t 118
abbrev t119 : X := .t 119
abbrev t120 : X := .t 120
abbrev t121 : X := .t 121
abbrev t122 : X := .t 122
abbrev t123 : X := .t 123
abbrev t124 : X := .t 124
abbrev t125 : X := .t 125
abbrev t126 : X := .t 126
abbrev t127 : X := .t 127
abbrev t128 : X := .t 128
abbrev t129 : X := .t 129
abbrev t130 : X := .t 130
abbrev t131 : X := .t 131
abbrev t132 : X := .t 132
abbrev t133 : X := .t 133
abbrev t134 : X := .t 134
abbrev t135 : X := .t 135
abbrev t136 : X := .t 136
abbrev t137 : X := .t 137
abbrev t138 : X := .t 138
abbrev t139 : X := .t 139
abbrev t140 : X := .t 140
abbrev t141 : X := .t 141
abbrev t142 : X := .t 142
abbrev t143 : X := .t 143
abbrev t144 : X := .t 144
abbrev t145 : X := .t 145
abbrev t146 : X := .t 146
abbrev t147 : X := .t 147
abbrev t148 : X := .t 148
abbrev t149 : X := .t 149
abbrev t150 : X := .t 150
abbrev t151 : X := .t 151
abbrev t152 : X := .t 152
abbrev t153 : X := .t 153
abbrev t154 : X := .t 154
abbrev t155 : X := .t 155
abbrev t156 : X := .t 156
abbrev t157 : X := .t 157
abbrev t158 : X := .t 158
abbrev t159 : X := .t 159
abbrev t160 : X := .t 160
abbrev t161 : X := .t 161
abbrev t162 : X := .t 162
abbrev t163 : X := .t 163
abbrev t164 : X := .t 164
abbrev t165 : X := .t 165
abbrev t166 : X := .t 166
abbrev t167 : X := .t 167
abbrev t168 : X := .t 168
abbrev t169 : X := .t 169
abbrev t170 : X := .t 170
abbrev t171 : X := .t 171

abbrev l21_ReportLetterBack : Nat := 3
abbrev l21_ReportLetters : Nat := 4
abbrev report_Letter : Nat := 5
abbrev report_ReadLetter : Nat := 6
abbrev r21_Letter : Nat := 7
abbrev r21_ReadLetter : Nat := 8
abbrev calendar_FormatDate : Nat := 9
abbrev report_sentence : Nat := 10
abbrev strconv_Itoa : Nat := 11
abbrev money_Format : Nat := 12
abbrev strings_Cut : Nat := 13
abbrev strings_TrimPrefix : Nat := 14
abbrev report_number : Nat := 15
abbrev calendar_ParseDate : Nat := 16
abbrev report_form_fill : Nat := 17
abbrev r2_FormatDate : Nat := 18
abbrev r21_sentence : Nat := 19
abbrev r1_Format : Nat := 20
abbrev r21_runs : Nat := 21
abbrev r2_Number : Nat := 22
abbrev r21_tried : Nat := 23
abbrev calendar_Civil : Nat := 24
abbrev calendar_put : Nat := 25
abbrev internal_strconv_Itoa : Nat := 26
abbrev money_magnitude : Nat := 27
abbrev strconv_AppendUint : Nat := 28
abbrev internal_stringslite_Cut : Nat := 29
abbrev internal_stringslite_TrimPrefix : Nat := 30
abbrev strconv_Atoi : Nat := 31
abbrev calendar_digits : Nat := 32
abbrev calendar_Number : Nat := 33
abbrev strings_CutPrefix : Nat := 34
abbrev strings_CutSuffix : Nat := 35
abbrev money_Parse : Nat := 36
abbrev r2_Civil : Nat := 37
abbrev r2_padded : Nat := 38
abbrev r1_size : Nat := 39
abbrev strconv_FormatUint : Nat := 40
abbrev r21_digit : Nat := 41
abbrev r2_MonthLen : Nat := 42
abbrev r2_yearLen : Nat := 43
abbrev r2_lenOf : Nat := 44
abbrev calendar_start : Nat := 45
abbrev internal_strconv_FormatInt : Nat := 46
abbrev internal_strconv_AppendUint : Nat := 47
abbrev internal_stringslite_Index : Nat := 48
abbrev internal_stringslite_HasPrefix : Nat := 49
abbrev internal_strconv_Atoi : Nat := 50
abbrev strconv_toError : Nat := 51
abbrev calendar_MonthLen : Nat := 52
abbrev calendar_Leap : Nat := 53
abbrev internal_stringslite_CutPrefix : Nat := 54
abbrev internal_stringslite_CutSuffix : Nat := 55
abbrev money_withSign : Nat := 56
abbrev r2_isDay : Nat := 57
abbrev internal_strconv_FormatUint : Nat := 58
abbrev r2_divides : Nat := 59
abbrev internal_strconv_small : Nat := 60
abbrev internal_strconv_numDigits : Nat := 61
abbrev internal_strconv_formatBase10 : Nat := 62
abbrev internal_strconv_formatBits : Nat := 63
abbrev internal_stringslite_IndexByte : Nat := 64
abbrev internal_bytealg_Cutover : Nat := 66
abbrev internal_bytealg_IndexRabinKarp_string_ : Nat := 67
abbrev internal_strconv_ParseInt : Nat := 68
abbrev strconv_syntaxError : Nat := 69
abbrev strconv_rangeError : Nat := 70
abbrev strconv_baseError : Nat := 71
abbrev strconv_bitSizeError : Nat := 72
abbrev internal_stringslite_HasSuffix : Nat := 73
abbrev internal_strconv_log10Pow2 : Nat := 74
abbrev math_bits_Len64 : Nat := 75
abbrev internal_strconv_bool2_int_ : Nat := 76
abbrev internal_strconv_isPowerOfTwo : Nat := 77
abbrev math_bits_TrailingZeros : Nat := 78
abbrev internal_bytealg_hashStr_string_ : Nat := 80
abbrev internal_strconv_ParseUint : Nat := 81
abbrev internal_stringslite_Clone : Nat := 82
abbrev errors_New : Nat := 83
abbrev math_bits_TrailingZeros32 : Nat := 84
abbrev math_bits_TrailingZeros64 : Nat := 85
abbrev internal_strconv_lower : Nat := 86
abbrev internal_strconv_underscoreOK : Nat := 87
theorem fn_l21_ReportLetterBack : Tryd.prog.funcs[l21_ReportLetterBack]? = some Tryd.f3 := Tryd.func3
theorem nt_l21_ReportLetterBack : Tryd.f3.ntmps = 104 := Tryd.ntmps3
def ic_l21_ReportLetterBack : IC := (.seq (io [.o 2 (.box t0), em 4 cf])
  (.seq (io [ef 14 0 0 t2, el 15 false 1 t14, eb 16 .geq t15 (ci 1), em 17 t16, .og 18 17 true (.fa 1 1 t2), .og 19 17 true (.ld false 1 t18), .og 20 17 true (.bin .geq t19 (ci 1)), .o 21 (.pick t17 t20 cf), em 22 t21, .og 23 22 true (.fa 2 2 t2), .og 24 22 true (.ld false 1 t23), .og 25 22 true (.bin .geq t24 (ci 1)), .o 26 (.pick t22 t25 cf), em 27 t26, .og 28 27 true (.fa 2 2 t2), .og 29 27 true (.ld false 1 t28), .og 30 27 true (.bin .leq t29 (ci 9)), .o 31 (.pick t27 t30 cf), em 32 t31, .og 33 32 true (.fa 3 3 t2), .og 34 32 true (.ld false 1 t33), .og 35 32 true (.bin .geq t34 (ci 1)), .o 36 (.pick t32 t35 cf), em 37 t36, .og 38 37 true (.fa 3 3 t2), .og 39 37 true (.ld false 1 t38), .og 40 37 true (.bin .leq t39 (ci 3652059)), .o 41 (.pick t37 t40 cf), em 42 t41, .og 43 42 true (.fa 4 4 t2), .og 44 42 true (.ld false 1 t43), .og 45 42 true (.bin .geq t44 (ci 0)), .o 46 (.pick t42 t45 cf), em 5 t46])
  (.seq (io [el 48 true 6 t2, ec 49 5 [t48], em 47 t49, ex 50 0 t47, ex 51 1 t47, em 6 t50, em 7 t51])
  (.seq (.seq (io [em 52 t7, em 53 t5, .o 54 (.eqv true t52 t53)])
  (.cond t54
  (.seq (io [em 4 cf])
  .ret)
  .skip))
  (.seq (.seq (io [em 55 t7])
  (.cond t55
  (.seq (io [em 57 t6, ec 58 6 [t57], em 56 t58, ex 59 0 t56, ex 60 1 t56, .o 8 (.alloc (.st (zc (zc (zc (zc (zc (zf .nil)))))))), .n (.sto 6 t8 t59), em 9 t60])
  (.seq (io [em 61 t9, .o 62 (.un .not t61), em 63 t62, .og 64 63 false (.ld true 6 t8), .og 65 63 false (.fa 0 0 t2), .og 66 63 false (.ld false 1 t65), .og 67 63 false (.fa 1 1 t2), .og 68 63 false (.ld false 1 t67), .og 69 63 false (.fa 2 2 t2), .og 70 63 false (.ld false 1 t69), .og 71 63 false (.fa 3 3 t2), .og 72 63 false (.ld false 1 t71), .og 73 63 false (.fa 4 4 t2), .og 74 63 false (.ld false 1 t73), .og 75 63 false (.build (.st (zc (zc (zc (zc (zc (zf .nil))))))) [(0, 0, 1, t66), (1, 1, 1, t68), (2, 2, 1, t70), (3, 3, 1, t72), (4, 4, 1, t74)]), .og 76 63 false (.eqs true (.st (.cons .int (.cons .int (.cons .int (.cons .int (.cons .int (.cons .bool .nil))))))) t64 t75), .o 77 (.pick t63 ct t76)])
  (.cond t77
  (.seq (io [em 4 cf])
  .ret)
  .skip)))
  .skip))
  (.seq (io [em 79 t1, ec 80 6 [t79], em 78 t80, ex 81 0 t78, ex 82 1 t78, .o 10 (.alloc (.st (zc (zc (zc (zc (zc (zf .nil)))))))), .n (.sto 6 t10 t81), em 11 t82])
  (.seq (.seq (io [em 83 t11, .o 84 (.un .not t83)])
  (.cond t84
  (.seq (io [el 85 true 6 t10, .o 86 (.build (.st (zc (zc (zc (zc (zc (zf .nil))))))) []), .o 87 (.eqs false (.st (.cons .int (.cons .int (.cons .int (.cons .int (.cons .int (.cons .bool .nil))))))) t85 t86), em 4 t87])
  .ret)
  .skip))
  (.seq (io [el 89 true 6 t10, ec 90 5 [t89], em 88 t90, ex 91 0 t88, ex 92 1 t88, em 12 t91, em 13 t92])
  (.seq (io [em 93 t13, em 94 t93, .og 95 94 true (.mv t12), .og 96 94 true (.mv t1), .og 97 94 true (.sop .eql t95 t96), .o 98 (.pick t94 t97 cf), em 99 t98, .og 100 99 true (.fa 5 5 t10), .og 101 99 true (.ld false 1 t100), .og 102 99 true (.un .not t101), .o 103 (.pick t99 t102 cf), em 4 t103])
  .ret)))))))))
theorem hc_l21_ReportLetterBack : compF Tryd.prog 104 Tryd.f3 = some (ic_l21_ReportLetterBack, [.t 4]) := by kernel_rfl

theorem fn_l21_ReportLetters : Tryd.prog.funcs[l21_ReportLetters]? = some Tryd.f4 := Tryd.func4
theorem nt_l21_ReportLetters : Tryd.f4.ntmps = 49 := Tryd.ntmps4
def ic_l21_ReportLetters : IC := (.seq (io [.o 2 (.box t0), em 4 cf])
  (.seq (io [el 14 true 6 t2, ec 15 5 [t14], em 13 t15, ex 16 0 t13, ex 17 1 t13, em 5 t16, em 6 t17])
  (.seq (io [el 19 true 6 t2, ec 20 7 [t19], em 18 t20, ex 21 0 t18, ex 22 1 t18, em 7 t21, em 8 t22])
  (.seq (.seq (io [em 23 t5, em 24 t7, .o 25 (.sop .neq t23 t24), em 26 t25, .og 27 26 false (.mv t6), .og 28 26 false (.mv t8), .og 29 26 false (.eqv true t27 t28), .o 30 (.pick t26 ct t29)])
  (.cond t30
  (.seq (io [em 4 cf])
  .ret)
  .skip))
  (.seq (io [em 32 t1, ec 33 6 [t32], em 31 t33, ex 34 0 t31, ex 35 1 t31, .o 9 (.alloc (.st (zc (zc (zc (zc (zc (zf .nil)))))))), .n (.sto 6 t9 t34), em 10 t35])
  (.seq (io [em 37 t1, ec 38 8 [t37], em 36 t38, ex 39 0 t36, ex 40 1 t36, .o 11 (.alloc (.st (zc (zc (zc (zc (zc (zf .nil)))))))), .n (.sto 6 t11 t39), em 12 t40])
  (.seq (io [el 41 true 6 t9, el 42 true 6 t11, .o 43 (.eqs false (.st (.cons .int (.cons .int (.cons .int (.cons .int (.cons .int (.cons .bool .nil))))))) t41 t42), em 44 t43, .og 45 44 true (.mv t10), .og 46 44 true (.mv t12), .og 47 44 true (.eqv false t45 t46), .o 48 (.pick t44 t47 cf), em 4 t48])
  .ret)))))))
theorem hc_l21_ReportLetters : compF Tryd.prog 49 Tryd.f4 = some (ic_l21_ReportLetters, [.t 4]) := by kernel_rfl

theorem fn_report_Letter : Tryd.prog.funcs[report_Letter]? = some Tryd.f5 := Tryd.func5
theorem nt_report_Letter : Tryd.f5.ntmps = 76 := Tryd.ntmps5
def ic_report_Letter : IC := (.seq (io [.o 1 (.box t0), em 2 (.c (.string ⟨#[]⟩)), em 3 cf])
  (.seq (io [ef 10 3 3 t1, el 11 false 1 t10, ec 12 9 [t11], em 9 t12, ex 13 0 t9, ex 14 1 t9, em 4 t13, em 5 t14])
  (.seq (.seq (io [em 15 t5, .o 16 (.un .not t15), em 17 t16, .og 18 17 false (.fa 0 0 t1), .og 19 17 false (.ld false 1 t18), .og 20 17 false (.bin .lss t19 (ci 1)), .o 21 (.pick t17 ct t20), em 22 t21, .og 23 22 false (.fa 1 1 t1), .og 24 22 false (.ld false 1 t23), .og 25 22 false (.bin .lss t24 (ci 1)), .o 26 (.pick t22 ct t25), em 27 t26, .og 28 27 false (.fa 4 4 t1), .og 29 27 false (.ld false 1 t28), .og 30 27 false (.bin .lss t29 (ci 0)), .o 31 (.pick t27 ct t30), em 32 t31, .og 33 32 false (.fa 2 2 t1), .og 34 32 false (.ld false 1 t33), .og 35 32 false (.bin .lss t34 (ci 1)), .o 36 (.pick t32 ct t35), em 37 t36, .og 38 37 false (.fa 2 2 t1), .og 39 37 false (.ld false 1 t38), .og 40 37 false (.bin .gtr t39 (ci 9)), .o 41 (.pick t37 ct t40)])
  (.cond t41
  (.seq (io [em 2 (.c (.string ⟨#[]⟩)), em 3 cf])
  .ret)
  .skip))
  (.seq (io [ef 42 2 2 t1, el 43 false 1 t42, ec 44 10 [t43], .o 6 (.alloc (.st (.cons (.val (.string ⟨#[]⟩)) (.cons (.val (.string ⟨#[]⟩)) (.cons (.val (.string ⟨#[]⟩)) (zf .nil)))))), .n (.sto 4 t6 t44)])
  (.seq (.dops [ef 45 1 1 t1, el 46 false 1 t45, ec 47 11 [t46], ef 48 4 4 t1, el 49 false 1 t48, ec 50 12 [t49], em 7 t47, em 8 t50])
  (.seq (.seq (io [ef 51 3 3 t6, el 52 false 1 t51])
  (.cond t52
  (.ops [em 53 t8, em 54 t7, em 7 t53, em 8 t54])
  .skip))
  (.seq (.dops [ef 55 0 0 t1, el 56 false 1 t55, ec 57 11 [t56], .o 58 (.sop .add (.c (.string ⟨#[78, 111, 116, 105, 99, 101, 32]⟩)) t57), .o 59 (.sop .add t58 (.c (.string ⟨#[32, 111, 102, 32]⟩))), em 60 t4, .o 61 (.sop .add t59 t60), .o 62 (.sop .add t61 (.c (.string ⟨#[58, 32]⟩))), ef 63 0 0 t6, el 64 false 1 t63, .o 65 (.sop .add t62 t64), em 66 t7, .o 67 (.sop .add t65 t66), ef 68 1 1 t6, el 69 false 1 t68, .o 70 (.sop .add t67 t69), em 71 t8, .o 72 (.sop .add t70 t71), ef 73 2 2 t6, el 74 false 1 t73, .o 75 (.sop .add t72 t74), em 2 t75, em 3 ct])
  .ret)))))))
theorem hc_report_Letter : compF Tryd.prog 76 Tryd.f5 = some (ic_report_Letter, [.t 2, .t 3]) := by kernel_rfl

theorem fn_report_ReadLetter : Tryd.prog.funcs[report_ReadLetter]? = some Tryd.f6 := Tryd.func6
theorem nt_report_ReadLetter : Tryd.f6.ntmps = 83 := Tryd.ntmps6
def ic_report_ReadLetter : IC := (.seq (io [.o 2 (.alloc (.st (zc (zc (zc (zc (zc (zf .nil)))))))), em 3 cf])
  (.seq (io [em 18 t0, .o 19 (.call 13 [t18, (.c (.string ⟨#[58, 32]⟩))]), em 17 t19, ex 20 0 t17, ex 21 1 t17, ex 22 2 t17, em 4 t20, em 5 t21, em 6 t22])
  (.seq (io [em 24 t4, .o 25 (.call 14 [t24, (.c (.string ⟨#[78, 111, 116, 105, 99, 101, 32]⟩))]), .o 26 (.call 13 [t25, (.c (.string ⟨#[32, 111, 102, 32]⟩))]), em 23 t26, ex 27 0 t23, ex 28 1 t23, ex 29 2 t23, em 7 t27, em 8 t28, em 9 t29])
  (.seq (.seq (io [em 30 t6, .o 31 (.un .not t30), em 32 t31, .og 33 32 false (.mv t9), .og 34 32 false (.un .not t33), .o 35 (.pick t32 ct t34)])
  (.cond t35
  (.seq (io [.o 36 (.build (.st (zc (zc (zc (zc (zc (zf .nil))))))) []), .n (.sto 6 t2 t36), em 3 cf])
  .ret)
  .skip))
  (.seq (io [.o 37 (.build (.st (zc (zc (zc (zc (zc (zf .nil))))))) []), .o 10 (.alloc (.st (zc (zc (zc (zc (zc (zf .nil)))))))), .n (.sto 6 t10 t37)])
  (.seq (io [em 39 t7, ec 40 15 [t39], em 38 t40, ex 41 0 t38, ex 42 1 t38, ef 43 0 0 t10, .n (.sto 1 t43 t41)])
  (.seq (io [em 45 t8, ec 46 16 [t45], em 44 t46, ex 47 0 t44, ex 48 1 t44, ef 49 3 3 t10, .n (.sto 1 t49 t47)])
  (.seq (.seq (io [em 11 (ci 1)])
  (.block 0 (.loop (.seq (.seq (io [em 50 t11, eb 51 .leq t50 (ci 9)])
  (.cond t51
  .skip
  (.exit 0)))
  (.seq (.block 1 (.seq (io [em 55 t11, ec 56 10 [t55], em 57 t5, ec 58 17 [t56, t57], em 54 t58, ex 59 0 t54, ex 60 1 t54, ex 61 2 t54, em 12 t59, em 13 t60, em 14 t61])
  (.seq (.seq (io [em 62 t14, .o 63 (.un .not t62)])
  (.cond t63
  (.exit 1)
  .skip))
  (.seq (io [em 64 t11, em 65 t12, em 66 t13, ef 67 2 2 t10, .n (.sto 1 t67 t64), ef 68 1 1 t10, .n (.sto 1 t68 t65), ef 69 4 4 t10, .n (.sto 1 t69 t66)])
  (.seq (io [el 71 true 6 t10, ec 72 5 [t71], em 70 t72, ex 73 0 t70, ex 74 1 t70, em 15 t73, em 16 t74])
  (.seq (io [em 75 t16, em 76 t75, .og 77 76 true (.mv t15), .og 78 76 true (.mv t0), .og 79 76 true (.sop .eql t77 t78), .o 80 (.pick t76 t79 cf)])
  (.cond t80
  (.seq (io [el 81 true 6 t10, .n (.sto 6 t2 t81), em 3 ct])
  .ret)
  .skip)))))))
  (.ops [em 52 t11, eb 53 .add t52 (ci 1), em 11 t53]))))))
  (.seq (io [.o 82 (.build (.st (zc (zc (zc (zc (zc (zf .nil))))))) []), .n (.sto 6 t2 t82), em 3 cf])
  .ret)))))))))
theorem hc_report_ReadLetter : compF Tryd.prog 83 Tryd.f6 = some (ic_report_ReadLetter, [.c 2 true 6, .t 3]) := by kernel_rfl

theorem fn_r21_Letter : Tryd.prog.funcs[r21_Letter]? = some Tryd.f7 := Tryd.func7
theorem nt_r21_Letter : Tryd.f7.ntmps = 59 := Tryd.ntmps7
def ic_r21_Letter : IC := (.seq (io [.o 1 (.box t0), em 2 (.c (.string ⟨#[]⟩)), em 3 cf])
  (.seq (io [ef 8 3 3 t1, el 9 false 1 t8, ec 10 18 [t9], em 7 t10, ex 11 0 t7, ex 12 1 t7, em 4 t11, em 5 t12])
  (.seq (.seq (io [em 13 t5, .o 14 (.un .not t13), em 15 t14, .og 16 15 false (.fa 0 0 t1), .og 17 15 false (.ld false 1 t16), .og 18 15 false (.bin .lss t17 (ci 1)), .o 19 (.pick t15 ct t18), em 20 t19, .og 21 20 false (.fa 1 1 t1), .og 22 20 false (.ld false 1 t21), .og 23 20 false (.bin .lss t22 (ci 1)), .o 24 (.pick t20 ct t23), em 25 t24, .og 26 25 false (.fa 2 2 t1), .og 27 25 false (.ld false 1 t26), .og 28 25 false (.bin .lss t27 (ci 1)), .o 29 (.pick t25 ct t28), em 30 t29, .og 31 30 false (.fa 2 2 t1), .og 32 30 false (.ld false 1 t31), .og 33 30 false (.bin .gtr t32 (ci 9)), .o 34 (.pick t30 ct t33), em 35 t34, .og 36 35 false (.fa 4 4 t1), .og 37 35 false (.ld false 1 t36), .og 38 35 false (.bin .lss t37 (ci 0)), .o 39 (.pick t35 ct t38)])
  (.cond t39
  (.seq (io [em 2 (.c (.string ⟨#[]⟩)), em 3 cf])
  .ret)
  .skip))
  (.seq (io [ef 40 0 0 t1, el 41 false 1 t40, ec 42 11 [t41], .o 43 (.sop .add (.c (.string ⟨#[78, 111, 116, 105, 99, 101, 32]⟩)) t42), .o 44 (.sop .add t43 (.c (.string ⟨#[32, 111, 102, 32]⟩))), em 45 t4, .o 46 (.sop .add t44 t45), .o 47 (.sop .add t46 (.c (.string ⟨#[58, 32]⟩))), em 6 t47])
  (.seq (.dops [em 48 t6, ef 49 2 2 t1, el 50 false 1 t49, ef 51 1 1 t1, el 52 false 1 t51, ec 53 11 [t52], ef 54 4 4 t1, el 55 false 1 t54, ec 56 20 [t55], ec 57 19 [t50, t53, t56], .o 58 (.sop .add t48 t57), em 2 t58, em 3 ct])
  .ret)))))
theorem hc_r21_Letter : compF Tryd.prog 59 Tryd.f7 = some (ic_r21_Letter, [.t 2, .t 3]) := by kernel_rfl

theorem fn_r21_ReadLetter : Tryd.prog.funcs[r21_ReadLetter]? = some Tryd.f8 := Tryd.func8
theorem nt_r21_ReadLetter : Tryd.f8.ntmps = 80 := Tryd.ntmps8
def ic_r21_ReadLetter : IC := (.seq (io [.o 2 (.alloc (.st (zc (zc (zc (zc (zc (zf .nil)))))))), em 3 cf])
  (.seq (io [em 10 t0, ec 11 21 [t10], em 4 t11])
  (.seq (.seq (io [em 12 t4, .o 13 (.len t12), eb 14 .neq t13 (ci 7)])
  (.cond t14
  (.seq (io [.o 15 (.build (.st (zc (zc (zc (zc (zc (zf .nil))))))) []), .n (.sto 6 t2 t15), em 3 cf])
  .ret)
  .skip))
  (.seq (.dops [em 17 t4, es 18 1 t17 (ci 1), el 19 false 1 t18, em 20 t4, es 21 1 t20 (ci 2), el 22 false 1 t21, em 23 t4, es 24 1 t23 (ci 3), el 25 false 1 t24, .o 26 (.build (.st (zc (zc (zc .nil)))) [(0, 0, 1, t19), (1, 1, 1, t22), (2, 2, 1, t25)]), ey 27 22 [t26], em 16 t27, ex 28 0 t16, ex 29 1 t16, em 5 t28, em 6 t29])
  (.seq (.seq (io [em 30 t6, .o 31 (.un .not t30)])
  (.cond t31
  (.seq (io [.o 32 (.build (.st (zc (zc (zc (zc (zc (zf .nil))))))) []), .n (.sto 6 t2 t32), em 3 cf])
  .ret)
  .skip))
  (.seq (.seq (io [em 7 (ci 1)])
  (.block 0 (.loop (.seq (.seq (io [em 33 t7, eb 34 .leq t33 (ci 9)])
  (.cond t34
  .skip
  (.exit 0)))
  (.seq (.block 1 (.seq (.dops [em 37 t4, es 38 1 t37 (ci 0), el 39 false 1 t38, em 40 t4, es 41 1 t40 (ci 4), el 42 false 1 t41, em 43 t7, em 44 t5, em 45 t4, es 46 1 t45 (ci 5), el 47 false 1 t46, eb 48 .mul t47 (ci 100), em 49 t4, es 50 1 t49 (ci 6), el 51 false 1 t50, eb 52 .add t48 t51, .o 53 (.build (.st (zc (zc (zc (zc (zc (zf .nil))))))) [(0, 0, 1, t39), (1, 1, 1, t42), (2, 2, 1, t43), (3, 3, 1, t44), (4, 4, 1, t52)]), .o 8 (.alloc (.st (zc (zc (zc (zc (zc (zf .nil)))))))), .n (.sto 6 t8 t53)])
  (.seq (.dops [em 54 t4, es 55 1 t54 (ci 0), el 56 false 1 t55, em 57 t4, es 58 1 t57 (ci 6), el 59 false 1 t58, em 60 t7, em 61 t5, em 62 t4, es 63 1 t62 (ci 4), el 64 false 1 t63, eb 65 .mul t64 (ci 100), em 66 t4, es 67 1 t66 (ci 5), el 68 false 1 t67, eb 69 .add t65 t68, .o 70 (.build (.st (zc (zc (zc (zc (zc (zf .nil))))))) [(0, 0, 1, t56), (1, 1, 1, t59), (2, 2, 1, t60), (3, 3, 1, t61), (4, 4, 1, t69)]), .o 9 (.alloc (.st (zc (zc (zc (zc (zc (zf .nil)))))))), .n (.sto 6 t9 t70)])
  (.seq (.seq (io [el 71 true 6 t8, em 72 t0, ec 73 23 [t71, t72]])
  (.cond t73
  (.seq (io [el 74 true 6 t8, .n (.sto 6 t2 t74), em 3 ct])
  .ret)
  .skip))
  (.seq (io [el 75 true 6 t9, em 76 t0, ec 77 23 [t75, t76]])
  (.cond t77
  (.seq (io [el 78 true 6 t9, .n (.sto 6 t2 t78), em 3 ct])
  .ret)
  .skip))))))
  (.ops [em 35 t7, eb 36 .add t35 (ci 1), em 7 t36]))))))
  (.seq (io [.o 79 (.build (.st (zc (zc (zc (zc (zc (zf .nil))))))) []), .n (.sto 6 t2 t79), em 3 cf])
  .ret)))))))
theorem hc_r21_ReadLetter : compF Tryd.prog 80 Tryd.f8 = some (ic_r21_ReadLetter, [.c 2 true 6, .t 3]) := by kernel_rfl

theorem fn_calendar_FormatDate : Tryd.prog.funcs[calendar_FormatDate]? = some Tryd.f9 := Tryd.func9
theorem nt_calendar_FormatDate : Tryd.f9.ntmps = 33 := Tryd.ntmps9
def ic_calendar_FormatDate : IC := (.seq (io [em 2 (.c (.string ⟨#[]⟩)), em 3 cf])
  (.seq (io [em 8 t0, ec 9 24 [t8], em 7 t9, ex 10 0 t7, ex 11 1 t7, .o 4 (.alloc (.st (zc (zc (zc .nil))))), .n (.sto 3 t4 t10), em 5 t11])
  (.seq (.seq (io [em 12 t5, .o 13 (.un .not t12)])
  (.cond t13
  (.seq (io [em 2 (.c (.string ⟨#[]⟩)), em 3 cf])
  .ret)
  .skip))
  (.seq (io [.o 14 (.bsl 1 5 (.val (.int .u8 0)) [(0, 0, 1, (.c (.int .u8 48))), (1, 1, 1, (.c (.int .u8 48))), (2, 2, 1, (.c (.int .u8 48))), (3, 3, 1, (.c (.int .u8 48))), (4, 4, 1, (.c (.int .u8 45))), (5, 5, 1, (.c (.int .u8 48))), (6, 6, 1, (.c (.int .u8 48))), (7, 7, 1, (.c (.int .u8 45))), (8, 8, 1, (.c (.int .u8 48))), (9, 9, 1, (.c (.int .u8 48)))]), .o 15 (.cvb t14), em 6 t15])
  (.seq (.dops [em 16 t6, .o 17 (.slc 1 t16 .no (ci 4)), ef 18 0 0 t4, el 19 false 1 t18, ey 20 25 [t17, t19]])
  (.seq (.dops [em 21 t6, .o 22 (.slc 1 t21 (ci 5) (ci 7)), ef 23 1 1 t4, el 24 false 1 t23, ey 25 25 [t22, t24]])
  (.seq (.dops [em 26 t6, .o 27 (.slc 1 t26 (ci 8) .no), ef 28 2 2 t4, el 29 false 1 t28, ey 30 25 [t27, t29]])
  (.seq (io [em 31 t6, .o 32 (.b2s t31), em 2 t32, em 3 ct])
  .ret))))))))
theorem hc_calendar_FormatDate : compF Tryd.prog 33 Tryd.f9 = some (ic_calendar_FormatDate, [.t 2, .t 3]) := by kernel_rfl

theorem fn_report_sentence : Tryd.prog.funcs[report_sentence]? = some Tryd.f10 := Tryd.func10
theorem nt_report_sentence : Tryd.f10.ntmps = 32 := Tryd.ntmps10
def ic_report_sentence : IC := (.seq (io [.o 2 (.alloc (.st (.cons (.val (.string ⟨#[]⟩)) (.cons (.val (.string ⟨#[]⟩)) (.cons (.val (.string ⟨#[]⟩)) (zf .nil))))))])
  (.seq (.seq (io [em 3 t0])
  (.block 0 (.seq (io [eb 5 .eql t3 (ci 1), em 4 t5])
  (.cond t4
  (.seq (io [.o 6 (.build (.st (.cons (.val (.string ⟨#[]⟩)) (.cons (.val (.string ⟨#[]⟩)) (.cons (.val (.string ⟨#[]⟩)) (zf .nil))))) [(0, 0, 1, (.c (.string ⟨#[116, 104, 101, 32, 112, 114, 111, 109, 105, 115, 101, 32, 116, 111, 32, 112, 97, 121, 32, 111, 110, 32, 108, 111, 97, 110, 32]⟩))), (1, 1, 1, (.c (.string ⟨#[32, 119, 97, 115, 32, 110, 111, 116, 32, 107, 101, 112, 116, 59, 32]⟩))), (2, 2, 1, (.c (.string ⟨#[32, 105, 115, 32, 112, 97, 115, 116, 32, 100, 117, 101, 46]⟩))), (3, 3, 1, cf)]), .n (.sto 4 t2 t6)])
  .ret)
  (.seq (io [eb 8 .eql t3 (ci 2), em 7 t8])
  (.cond t7
  (.seq (io [.o 9 (.build (.st (.cons (.val (.string ⟨#[]⟩)) (.cons (.val (.string ⟨#[]⟩)) (.cons (.val (.string ⟨#[]⟩)) (zf .nil))))) [(0, 0, 1, (.c (.string ⟨#[108, 111, 97, 110, 32]⟩))), (1, 1, 1, (.c (.string ⟨#[32, 105, 115, 32, 105, 110, 32, 97, 114, 114, 101, 97, 114, 115, 59, 32]⟩))), (2, 2, 1, (.c (.string ⟨#[32, 105, 115, 32, 112, 97, 115, 116, 32, 100, 117, 101, 46]⟩))), (3, 3, 1, cf)]), .n (.sto 4 t2 t9)])
  .ret)
  (.seq (io [eb 11 .eql t3 (ci 3), em 10 t11])
  (.cond t10
  (.seq (io [.o 12 (.build (.st (.cons (.val (.string ⟨#[]⟩)) (.cons (.val (.string ⟨#[]⟩)) (.cons (.val (.string ⟨#[]⟩)) (zf .nil))))) [(0, 0, 1, (.c (.string ⟨#[105, 110, 116, 101, 114, 101, 115, 116, 32, 111, 110, 32, 108, 111, 97, 110, 32]⟩))), (1, 1, 1, (.c (.string ⟨#[32, 105, 115, 32, 104, 101, 108, 100, 32, 105, 110, 32, 115, 117, 115, 112, 101, 110, 115, 101, 32, 102, 114, 111, 109, 32, 110, 111, 119, 32, 111, 110, 59, 32]⟩))), (2, 2, 1, (.c (.string ⟨#[32, 105, 115, 32, 112, 97, 115, 116, 32, 100, 117, 101, 46]⟩))), (3, 3, 1, cf)]), .n (.sto 4 t2 t12)])
  .ret)
  (.seq (io [eb 14 .eql t3 (ci 4), em 13 t14])
  (.cond t13
  (.seq (io [.o 15 (.build (.st (.cons (.val (.string ⟨#[]⟩)) (.cons (.val (.string ⟨#[]⟩)) (.cons (.val (.string ⟨#[]⟩)) (zf .nil))))) [(0, 0, 1, (.c (.string ⟨#[108, 111, 97, 110, 32]⟩))), (1, 1, 1, (.c (.string ⟨#[32, 119, 97, 115, 32, 99, 104, 97, 114, 103, 101, 100, 32, 111, 102, 102, 59, 32]⟩))), (2, 2, 1, (.c (.string ⟨#[32, 119, 97, 115, 32, 111, 119, 101, 100, 46]⟩))), (3, 3, 1, cf)]), .n (.sto 4 t2 t15)])
  .ret)
  (.seq (io [eb 17 .eql t3 (ci 5), em 16 t17])
  (.cond t16
  (.seq (io [.o 18 (.build (.st (.cons (.val (.string ⟨#[]⟩)) (.cons (.val (.string ⟨#[]⟩)) (.cons (.val (.string ⟨#[]⟩)) (zf .nil))))) [(0, 0, 1, (.c (.string ⟨#[97, 32, 108, 97, 116, 101, 32, 102, 101, 101, 32, 111, 102, 32]⟩))), (1, 1, 1, (.c (.string ⟨#[32, 119, 97, 115, 32, 99, 104, 97, 114, 103, 101, 100, 32, 116, 111, 32, 108, 111, 97, 110, 32]⟩))), (2, 2, 1, (.c (.string ⟨#[46]⟩))), (3, 3, 1, ct)]), .n (.sto 4 t2 t18)])
  .ret)
  (.seq (io [eb 20 .eql t3 (ci 6), em 19 t20])
  (.cond t19
  (.seq (io [.o 21 (.build (.st (.cons (.val (.string ⟨#[]⟩)) (.cons (.val (.string ⟨#[]⟩)) (.cons (.val (.string ⟨#[]⟩)) (zf .nil))))) [(0, 0, 1, (.c (.string ⟨#[108, 111, 97, 110, 32]⟩))), (1, 1, 1, (.c (.string ⟨#[32, 105, 115, 32, 117, 112, 32, 116, 111, 32, 100, 97, 116, 101, 32, 97, 103, 97, 105, 110, 59, 32]⟩))), (2, 2, 1, (.c (.string ⟨#[32, 105, 115, 32, 112, 97, 115, 116, 32, 100, 117, 101, 46]⟩))), (3, 3, 1, cf)]), .n (.sto 4 t2 t21)])
  .ret)
  (.seq (io [eb 23 .eql t3 (ci 7), em 22 t23])
  (.cond t22
  (.seq (io [.o 24 (.build (.st (.cons (.val (.string ⟨#[]⟩)) (.cons (.val (.string ⟨#[]⟩)) (.cons (.val (.string ⟨#[]⟩)) (zf .nil))))) [(0, 0, 1, (.c (.string ⟨#[108, 111, 97, 110, 32]⟩))), (1, 1, 1, (.c (.string ⟨#[32, 104, 97, 115, 32, 97, 32, 110, 101, 119, 32, 112, 108, 97, 110, 59, 32, 105, 116, 32, 105, 115, 32, 111, 118, 101, 114, 32]⟩))), (2, 2, 1, (.c (.string ⟨#[46]⟩))), (3, 3, 1, cf)]), .n (.sto 4 t2 t24)])
  .ret)
  (.seq (io [eb 26 .eql t3 (ci 8), em 25 t26])
  (.cond t25
  (.seq (io [.o 27 (.build (.st (.cons (.val (.string ⟨#[]⟩)) (.cons (.val (.string ⟨#[]⟩)) (.cons (.val (.string ⟨#[]⟩)) (zf .nil))))) [(0, 0, 1, (.c (.string ⟨#[108, 111, 97, 110, 32]⟩))), (1, 1, 1, (.c (.string ⟨#[32, 105, 115, 32, 112, 97, 105, 100, 32, 111, 102, 102, 59, 32]⟩))), (2, 2, 1, (.c (.string ⟨#[32, 105, 115, 32, 111, 119, 101, 100, 46]⟩))), (3, 3, 1, cf)]), .n (.sto 4 t2 t27)])
  .ret)
  (.seq (io [eb 29 .eql t3 (ci 9), em 28 t29])
  (.cond t28
  (.seq (io [.o 30 (.build (.st (.cons (.val (.string ⟨#[]⟩)) (.cons (.val (.string ⟨#[]⟩)) (.cons (.val (.string ⟨#[]⟩)) (zf .nil))))) [(0, 0, 1, (.c (.string ⟨#[97, 32, 112, 97, 121, 109, 101, 110, 116, 32, 111, 102, 32]⟩))), (1, 1, 1, (.c (.string ⟨#[32, 111, 110, 32, 108, 111, 97, 110, 32]⟩))), (2, 2, 1, (.c (.string ⟨#[32, 119, 97, 115, 32, 114, 101, 116, 117, 114, 110, 101, 100, 46]⟩))), (3, 3, 1, ct)]), .n (.sto 4 t2 t30)])
  .ret)
  .skip))))))))))))))))))))
  (.seq (io [.o 31 (.build (.st (.cons (.val (.string ⟨#[]⟩)) (.cons (.val (.string ⟨#[]⟩)) (.cons (.val (.string ⟨#[]⟩)) (zf .nil))))) []), .n (.sto 4 t2 t31)])
  .ret)))
theorem hc_report_sentence : compF Tryd.prog 32 Tryd.f10 = some (ic_report_sentence, [.c 2 true 4]) := by kernel_rfl

theorem fn_strconv_Itoa : Tryd.prog.funcs[strconv_Itoa]? = some Tryd.f11 := Tryd.func11
theorem nt_strconv_Itoa : Tryd.f11.ntmps = 5 := Tryd.ntmps11
def ic_strconv_Itoa : IC := (.seq (io [em 2 (.c (.string ⟨#[]⟩))])
  (.seq (io [em 3 t0, ec 4 26 [t3], em 2 t4])
  .ret))
theorem hc_strconv_Itoa : compF Tryd.prog 5 Tryd.f11 = some (ic_strconv_Itoa, [.t 2]) := by kernel_rfl

theorem fn_money_Format : Tryd.prog.funcs[money_Format]? = some Tryd.f12 := Tryd.func12
theorem nt_money_Format : Tryd.f12.ntmps = 32 := Tryd.ntmps12
def ic_money_Format : IC := (.seq (io [em 2 (.c (.string ⟨#[]⟩))])
  (.seq (io [em 6 t0, ec 7 27 [t6], em 3 t7])
  (.seq (io [.o 8 (.mks 1 1 5 (.val (.int .u8 0)) (ci 0) (ci 24)), em 4 t8])
  (.seq (.seq (io [em 9 t0, eb 10 .lss t9 (ci 0)])
  (.cond t10
  (.ops [em 11 t4, .o 12 (.bsl 1 5 (.val (.int .u8 0)) [(0, 0, 1, (.c (.int .u8 45)))]), .o 13 (.app 1 1 5 t11 t12), em 4 t13])
  .skip))
  (.seq (io [em 14 t4, em 15 t3, eb 16 .quo t15 (.c (.int .u64 100)), ec 17 28 [t14, t16, (ci 10)], em 4 t17])
  (.seq (io [em 18 t3, eb 19 .rem t18 (.c (.int .u64 100)), .o 20 (.conv .u8 t19), em 5 t20])
  (.seq (io [em 21 t4, em 22 t5, eb 23 .quo t22 (.c (.int .u8 10)), eb 24 .add (.c (.int .u8 48)) t23, em 25 t5, eb 26 .rem t25 (.c (.int .u8 10)), eb 27 .add (.c (.int .u8 48)) t26, .o 28 (.bsl 1 5 (.val (.int .u8 0)) [(0, 0, 1, (.c (.int .u8 46))), (1, 1, 1, t24), (2, 2, 1, t27)]), .o 29 (.app 1 1 5 t21 t28), em 4 t29])
  (.seq (io [em 30 t4, .o 31 (.b2s t30), em 2 t31])
  .ret))))))))
theorem hc_money_Format : compF Tryd.prog 32 Tryd.f12 = some (ic_money_Format, [.t 2]) := by kernel_rfl

theorem fn_strings_Cut : Tryd.prog.funcs[strings_Cut]? = some Tryd.f13 := Tryd.func13
theorem nt_strings_Cut : Tryd.f13.ntmps = 13 := Tryd.ntmps13
def ic_strings_Cut : IC := (.seq (io [em 4 (.c (.string ⟨#[]⟩)), em 5 (.c (.string ⟨#[]⟩)), em 6 cf])
  (.seq (io [em 7 t0, em 8 t1, ec 9 29 [t7, t8], ex 10 0 t9, ex 11 1 t9, ex 12 2 t9, em 4 t10, em 5 t11, em 6 t12])
  .ret))
theorem hc_strings_Cut : compF Tryd.prog 13 Tryd.f13 = some (ic_strings_Cut, [.t 4, .t 5, .t 6]) := by kernel_rfl

theorem fn_strings_TrimPrefix : Tryd.prog.funcs[strings_TrimPrefix]? = some Tryd.f14 := Tryd.func14
theorem nt_strings_TrimPrefix : Tryd.f14.ntmps = 8 := Tryd.ntmps14
def ic_strings_TrimPrefix : IC := (.seq (io [em 4 (.c (.string ⟨#[]⟩))])
  (.seq (io [em 5 t0, em 6 t1, ec 7 30 [t5, t6], em 4 t7])
  .ret))
theorem hc_strings_TrimPrefix : compF Tryd.prog 8 Tryd.f14 = some (ic_strings_TrimPrefix, [.t 4]) := by kernel_rfl

theorem fn_report_number : Tryd.prog.funcs[report_number]? = some Tryd.f15 := Tryd.func15
theorem nt_report_number : Tryd.f15.ntmps = 20 := Tryd.ntmps15
def ic_report_number : IC := (.seq (io [em 2 (ci 0), em 3 cf])
  (.seq (io [em 7 t0, ec 8 31 [t7], em 6 t8, ex 9 0 t6, ex 10 1 t6, em 4 t9, em 5 t10])
  (.seq (io [em 11 t4, em 12 t5, .o 13 (.eqn false t12), em 14 t13, .og 15 14 true (.mv t4), .og 16 14 true (.call 11 [t15]), .og 17 14 true (.mv t0), .og 18 14 true (.sop .eql t16 t17), .o 19 (.pick t14 t18 cf), em 2 t11, em 3 t19])
  .ret)))
theorem hc_report_number : compF Tryd.prog 20 Tryd.f15 = some (ic_report_number, [.t 2, .t 3]) := by kernel_rfl

theorem fn_calendar_ParseDate : Tryd.prog.funcs[calendar_ParseDate]? = some Tryd.f16 := Tryd.func16
theorem nt_calendar_ParseDate : Tryd.f16.ntmps = 58 := Tryd.ntmps16
def ic_calendar_ParseDate : IC := (.seq (io [em 2 (ci 0), em 3 cf])
  (.seq (.seq (io [em 10 t0, .o 11 (.lens t10), eb 12 .neq t11 (ci 10), em 13 t12, .og 14 13 false (.mv t0), .og 15 13 false (.ixb t14 (ci 4)), .og 16 13 false (.bin .neq t15 (.c (.int .u8 45))), .o 17 (.pick t13 ct t16), em 18 t17, .og 19 18 false (.mv t0), .og 20 18 false (.ixb t19 (ci 7)), .og 21 18 false (.bin .neq t20 (.c (.int .u8 45))), .o 22 (.pick t18 ct t21)])
  (.cond t22
  (.seq (io [em 2 (ci 0), em 3 cf])
  .ret)
  .skip))
  (.seq (io [em 24 t0, .o 25 (.sls t24 .no (ci 4)), ec 26 32 [t25], em 23 t26, ex 27 0 t23, ex 28 1 t23, em 4 t27, em 5 t28])
  (.seq (io [em 30 t0, .o 31 (.sls t30 (ci 5) (ci 7)), ec 32 32 [t31], em 29 t32, ex 33 0 t29, ex 34 1 t29, em 6 t33, em 7 t34])
  (.seq (io [em 36 t0, .o 37 (.sls t36 (ci 8) .no), ec 38 32 [t37], em 35 t38, ex 39 0 t35, ex 40 1 t35, em 8 t39, em 9 t40])
  (.seq (.seq (io [em 41 t5, .o 42 (.un .not t41), em 43 t42, .og 44 43 false (.mv t7), .og 45 43 false (.un .not t44), .o 46 (.pick t43 ct t45), em 47 t46, .og 48 47 false (.mv t9), .og 49 47 false (.un .not t48), .o 50 (.pick t47 ct t49)])
  (.cond t50
  (.seq (io [em 2 (ci 0), em 3 cf])
  .ret)
  .skip))
  (.seq (io [em 51 t4, em 52 t6, em 53 t8, .o 54 (.build (.st (zc (zc (zc .nil)))) [(0, 0, 1, t51), (1, 1, 1, t52), (2, 2, 1, t53)]), ec 55 33 [t54], ex 56 0 t55, ex 57 1 t55, em 2 t56, em 3 t57])
  .ret)))))))
theorem hc_calendar_ParseDate : compF Tryd.prog 58 Tryd.f16 = some (ic_calendar_ParseDate, [.t 2, .t 3]) := by kernel_rfl

theorem fn_report_form_fill : Tryd.prog.funcs[report_form_fill]? = some Tryd.f17 := Tryd.func17
theorem nt_report_form_fill : Tryd.f17.ntmps = 66 := Tryd.ntmps17
def ic_report_form_fill : IC := (.seq (io [.o 2 (.box t0), em 4 (ci 0), em 5 (ci 0), em 6 cf])
  (.seq (io [em 15 t1, ef 16 0 0 t2, el 17 false 1 t16, ec 18 34 [t15, t17], em 14 t18, ex 19 0 t14, ex 20 1 t14, em 1 t19, em 7 t20])
  (.seq (io [em 22 t1, ef 23 2 2 t2, el 24 false 1 t23, ec 25 35 [t22, t24], em 21 t25, ex 26 0 t21, ex 27 1 t21, em 1 t26, em 8 t27])
  (.seq (io [em 29 t1, ef 30 1 1 t2, el 31 false 1 t30, ec 32 13 [t29, t31], em 28 t32, ex 33 0 t28, ex 34 1 t28, ex 35 2 t28, em 9 t33, em 10 t34, em 11 t35])
  (.seq (.seq (io [em 36 t7, .o 37 (.un .not t36), em 38 t37, .og 39 38 false (.mv t8), .og 40 38 false (.un .not t39), .o 41 (.pick t38 ct t40), em 42 t41, .og 43 42 false (.mv t11), .og 44 42 false (.un .not t43), .o 45 (.pick t42 ct t44)])
  (.cond t45
  (.seq (io [em 4 (ci 0), em 5 (ci 0), em 6 cf])
  .ret)
  .skip))
  (.seq (.seq (io [ef 46 3 3 t2, el 47 false 1 t46])
  (.cond t47
  (.ops [em 48 t10, em 49 t9, em 9 t48, em 10 t49])
  .skip))
  (.seq (io [em 51 t9, ec 52 15 [t51], em 50 t52, ex 53 0 t50, ex 54 1 t50, em 4 t53, em 12 t54])
  (.seq (io [em 56 t10, ec 57 36 [t56], em 55 t57, ex 58 0 t55, ex 59 1 t55, em 5 t58, em 13 t59])
  (.seq (io [em 60 t4, em 61 t5, em 62 t12, em 63 t62, .og 64 63 true (.mv t13), .o 65 (.pick t63 t64 cf), em 4 t60, em 5 t61, em 6 t65])
  .ret)))))))))
theorem hc_report_form_fill : compF Tryd.prog 66 Tryd.f17 = some (ic_report_form_fill, [.t 4, .t 5, .t 6]) := by kernel_rfl

theorem fn_r2_FormatDate : Tryd.prog.funcs[r2_FormatDate]? = some Tryd.f18 := Tryd.func18
theorem nt_r2_FormatDate : Tryd.f18.ntmps = 26 := Tryd.ntmps18
def ic_r2_FormatDate : IC := (.seq (io [em 2 (.c (.string ⟨#[]⟩)), em 3 cf])
  (.seq (io [em 7 t0, ec 8 37 [t7], em 6 t8, ex 9 0 t6, ex 10 1 t6, .o 4 (.alloc (.st (zc (zc (zc .nil))))), .n (.sto 3 t4 t9), em 5 t10])
  (.seq (.seq (io [em 11 t5, .o 12 (.un .not t11)])
  (.cond t12
  (.seq (io [em 2 (.c (.string ⟨#[]⟩)), em 3 cf])
  .ret)
  .skip))
  (.seq (.dops [ef 13 0 0 t4, el 14 false 1 t13, ec 15 38 [t14, (ci 4)], .o 16 (.sop .add t15 (.c (.string ⟨#[45]⟩))), ef 17 1 1 t4, el 18 false 1 t17, ec 19 38 [t18, (ci 2)], .o 20 (.sop .add t16 t19), .o 21 (.sop .add t20 (.c (.string ⟨#[45]⟩))), ef 22 2 2 t4, el 23 false 1 t22, ec 24 38 [t23, (ci 2)], .o 25 (.sop .add t21 t24), em 2 t25, em 3 ct])
  .ret))))
theorem hc_r2_FormatDate : compF Tryd.prog 26 Tryd.f18 = some (ic_r2_FormatDate, [.t 2, .t 3]) := by kernel_rfl

theorem fn_r21_sentence : Tryd.prog.funcs[r21_sentence]? = some Tryd.f19 := Tryd.func19
theorem nt_r21_sentence : Tryd.f19.ntmps = 78 := Tryd.ntmps19
def ic_r21_sentence : IC := (.seq (io [em 6 (.c (.string ⟨#[]⟩))])
  (.seq (.seq (io [em 7 t0])
  (.block 0 (.seq (io [eb 9 .eql t7 (ci 1), em 8 t9])
  (.cond t8
  (.seq (io [em 10 t1, .o 11 (.sop .add (.c (.string ⟨#[116, 104, 101, 32, 112, 114, 111, 109, 105, 115, 101, 32, 116, 111, 32, 112, 97, 121, 32, 111, 110, 32, 108, 111, 97, 110, 32]⟩)) t10), .o 12 (.sop .add t11 (.c (.string ⟨#[32, 119, 97, 115, 32, 110, 111, 116, 32, 107, 101, 112, 116, 59, 32]⟩))), em 13 t2, .o 14 (.sop .add t12 t13), .o 15 (.sop .add t14 (.c (.string ⟨#[32, 105, 115, 32, 112, 97, 115, 116, 32, 100, 117, 101, 46]⟩))), em 6 t15])
  .ret)
  (.seq (io [eb 17 .eql t7 (ci 2), em 16 t17])
  (.cond t16
  (.seq (io [em 18 t1, .o 19 (.sop .add (.c (.string ⟨#[108, 111, 97, 110, 32]⟩)) t18), .o 20 (.sop .add t19 (.c (.string ⟨#[32, 105, 115, 32, 105, 110, 32, 97, 114, 114, 101, 97, 114, 115, 59, 32]⟩))), em 21 t2, .o 22 (.sop .add t20 t21), .o 23 (.sop .add t22 (.c (.string ⟨#[32, 105, 115, 32, 112, 97, 115, 116, 32, 100, 117, 101, 46]⟩))), em 6 t23])
  .ret)
  (.seq (io [eb 25 .eql t7 (ci 3), em 24 t25])
  (.cond t24
  (.seq (io [em 26 t1, .o 27 (.sop .add (.c (.string ⟨#[105, 110, 116, 101, 114, 101, 115, 116, 32, 111, 110, 32, 108, 111, 97, 110, 32]⟩)) t26), .o 28 (.sop .add t27 (.c (.string ⟨#[32, 105, 115, 32, 104, 101, 108, 100, 32, 105, 110, 32, 115, 117, 115, 112, 101, 110, 115, 101, 32, 102, 114, 111, 109, 32, 110, 111, 119, 32, 111, 110, 59, 32]⟩))), em 29 t2, .o 30 (.sop .add t28 t29), .o 31 (.sop .add t30 (.c (.string ⟨#[32, 105, 115, 32, 112, 97, 115, 116, 32, 100, 117, 101, 46]⟩))), em 6 t31])
  .ret)
  (.seq (io [eb 33 .eql t7 (ci 4), em 32 t33])
  (.cond t32
  (.seq (io [em 34 t1, .o 35 (.sop .add (.c (.string ⟨#[108, 111, 97, 110, 32]⟩)) t34), .o 36 (.sop .add t35 (.c (.string ⟨#[32, 119, 97, 115, 32, 99, 104, 97, 114, 103, 101, 100, 32, 111, 102, 102, 59, 32]⟩))), em 37 t2, .o 38 (.sop .add t36 t37), .o 39 (.sop .add t38 (.c (.string ⟨#[32, 119, 97, 115, 32, 111, 119, 101, 100, 46]⟩))), em 6 t39])
  .ret)
  (.seq (io [eb 41 .eql t7 (ci 5), em 40 t41])
  (.cond t40
  (.seq (io [em 42 t2, .o 43 (.sop .add (.c (.string ⟨#[97, 32, 108, 97, 116, 101, 32, 102, 101, 101, 32, 111, 102, 32]⟩)) t42), .o 44 (.sop .add t43 (.c (.string ⟨#[32, 119, 97, 115, 32, 99, 104, 97, 114, 103, 101, 100, 32, 116, 111, 32, 108, 111, 97, 110, 32]⟩))), em 45 t1, .o 46 (.sop .add t44 t45), .o 47 (.sop .add t46 (.c (.string ⟨#[46]⟩))), em 6 t47])
  .ret)
  (.seq (io [eb 49 .eql t7 (ci 6), em 48 t49])
  (.cond t48
  (.seq (io [em 50 t1, .o 51 (.sop .add (.c (.string ⟨#[108, 111, 97, 110, 32]⟩)) t50), .o 52 (.sop .add t51 (.c (.string ⟨#[32, 105, 115, 32, 117, 112, 32, 116, 111, 32, 100, 97, 116, 101, 32, 97, 103, 97, 105, 110, 59, 32]⟩))), em 53 t2, .o 54 (.sop .add t52 t53), .o 55 (.sop .add t54 (.c (.string ⟨#[32, 105, 115, 32, 112, 97, 115, 116, 32, 100, 117, 101, 46]⟩))), em 6 t55])
  .ret)
  (.seq (io [eb 57 .eql t7 (ci 7), em 56 t57])
  (.cond t56
  (.seq (io [em 58 t1, .o 59 (.sop .add (.c (.string ⟨#[108, 111, 97, 110, 32]⟩)) t58), .o 60 (.sop .add t59 (.c (.string ⟨#[32, 104, 97, 115, 32, 97, 32, 110, 101, 119, 32, 112, 108, 97, 110, 59, 32, 105, 116, 32, 105, 115, 32, 111, 118, 101, 114, 32]⟩))), em 61 t2, .o 62 (.sop .add t60 t61), .o 63 (.sop .add t62 (.c (.string ⟨#[46]⟩))), em 6 t63])
  .ret)
  (.seq (io [eb 65 .eql t7 (ci 8), em 64 t65])
  (.cond t64
  (.seq (io [em 66 t1, .o 67 (.sop .add (.c (.string ⟨#[108, 111, 97, 110, 32]⟩)) t66), .o 68 (.sop .add t67 (.c (.string ⟨#[32, 105, 115, 32, 112, 97, 105, 100, 32, 111, 102, 102, 59, 32]⟩))), em 69 t2, .o 70 (.sop .add t68 t69), .o 71 (.sop .add t70 (.c (.string ⟨#[32, 105, 115, 32, 111, 119, 101, 100, 46]⟩))), em 6 t71])
  .ret)
  .skip))))))))))))))))))
  (.seq (io [em 72 t2, .o 73 (.sop .add (.c (.string ⟨#[97, 32, 112, 97, 121, 109, 101, 110, 116, 32, 111, 102, 32]⟩)) t72), .o 74 (.sop .add t73 (.c (.string ⟨#[32, 111, 110, 32, 108, 111, 97, 110, 32]⟩))), em 75 t1, .o 76 (.sop .add t74 t75), .o 77 (.sop .add t76 (.c (.string ⟨#[32, 119, 97, 115, 32, 114, 101, 116, 117, 114, 110, 101, 100, 46]⟩))), em 6 t77])
  .ret)))
theorem hc_r21_sentence : compF Tryd.prog 78 Tryd.f19 = some (ic_r21_sentence, [.t 6]) := by kernel_rfl

theorem fn_r1_Format : Tryd.prog.funcs[r1_Format]? = some Tryd.f20 := Tryd.func20
theorem nt_r1_Format : Tryd.f20.ntmps = 27 := Tryd.ntmps20
def ic_r1_Format : IC := (.seq (io [em 2 (.c (.string ⟨#[]⟩))])
  (.seq (io [em 6 t0, ec 7 39 [t6], em 3 t7])
  (.seq (io [em 8 t3, eb 9 .rem t8 (.c (.int .u64 100)), em 4 t9])
  (.seq (io [em 10 t3, eb 11 .quo t10 (.c (.int .u64 100)), ec 12 40 [t11, (ci 10)], .o 13 (.sop .add t12 (.c (.string ⟨#[46]⟩))), em 14 t4, eb 15 .quo t14 (.c (.int .u64 10)), ec 16 40 [t15, (ci 10)], .o 17 (.sop .add t13 t16), em 18 t4, eb 19 .rem t18 (.c (.int .u64 10)), ec 20 40 [t19, (ci 10)], .o 21 (.sop .add t17 t20), em 5 t21])
  (.seq (.seq (io [em 22 t0, eb 23 .lss t22 (ci 0)])
  (.cond t23
  (.seq (io [em 24 t5, .o 25 (.sop .add (.c (.string ⟨#[45]⟩)) t24), em 2 t25])
  .ret)
  .skip))
  (.seq (io [em 26 t5, em 2 t26])
  .ret))))))
theorem hc_r1_Format : compF Tryd.prog 27 Tryd.f20 = some (ic_r1_Format, [.t 2]) := by kernel_rfl

theorem fn_r21_runs : Tryd.prog.funcs[r21_runs]? = some Tryd.f21 := Tryd.func21
theorem nt_r21_runs : Tryd.f21.ntmps = 42 := Tryd.ntmps21
def ic_r21_runs : IC := (.seq (io [em 2 (.c (.slice none 0 0))])
  (.seq (io [em 3 (.c (.slice none 0 0))])
  (.seq (io [em 4 (ci 0)])
  (.seq (io [em 5 (ci 0)])
  (.seq (.seq (io [em 6 (ci 0)])
  (.block 0 (.loop (.seq (.seq (io [em 7 t6, em 8 t0, .o 9 (.lens t8), eb 10 .leq t7 t9])
  (.cond t10
  .skip
  (.exit 0)))
  (.seq (.block 1 (.seq (io [em 13 t6, em 14 t0, .o 15 (.lens t14), eb 16 .lss t13 t15, em 17 t16, .og 18 17 true (.mv t0), .og 19 17 true (.mv t6), .og 20 17 true (.ixb t18 t19), .og 21 17 true (.call 41 [t20]), .o 22 (.pick t17 t21 cf)])
  (.cond t22
  (.seq (.seq (io [em 23 t5, eb 24 .lss t23 (ci 19)])
  (.cond t24
  (.ops [em 25 t4, eb 26 .mul (ci 10) t25, em 27 t0, em 28 t6, .o 29 (.ixb t27 t28), eb 30 .sub t29 (.c (.int .u8 48)), .o 31 (.conv .i64 t30), eb 32 .add t26 t31, em 4 t32])
  .skip))
  (.ops [em 33 t5, eb 34 .add t33 (ci 1), em 5 t34]))
  (.seq (io [em 35 t5, eb 36 .gtr t35 (ci 0)])
  (.cond t36
  (.seq (io [em 37 t3, em 38 t4, .o 39 (.bsl 1 3 zi [(0, 0, 1, t38)]), .o 40 (.app 1 8 3 t37 t39), em 3 t40])
  (.seq (io [em 4 (ci 0)])
  (.ops [em 5 (ci 0)])))
  .skip)))))
  (.ops [em 11 t6, eb 12 .add t11 (ci 1), em 6 t12]))))))
  (.seq (io [em 41 t3, em 2 t41])
  .ret))))))
theorem hc_r21_runs : compF Tryd.prog 42 Tryd.f21 = some (ic_r21_runs, [.t 2]) := by kernel_rfl

theorem fn_r2_Number : Tryd.prog.funcs[r2_Number]? = some Tryd.f22 := Tryd.func22
theorem nt_r2_Number : Tryd.f22.ntmps = 56 := Tryd.ntmps22
def ic_r2_Number : IC := (.seq (io [.o 1 (.box t0), em 2 (ci 0), em 3 cf])
  (.seq (.seq (.dops [ef 8 2 2 t1, el 9 false 1 t8, eb 10 .lss t9 (ci 1), em 11 t10, .og 12 11 false (.fa 2 2 t1), .og 13 11 false (.ld false 1 t12), .og 14 11 false (.fa 0 0 t1), .og 15 11 false (.ld false 1 t14), .og 16 11 false (.fa 1 1 t1), .og 17 11 false (.ld false 1 t16), .og 18 11 false (.call 42 [t15, t17]), .og 19 11 false (.bin .gtr t13 t18), .o 20 (.pick t11 ct t19)])
  (.cond t20
  (.seq (io [em 2 (ci 0), em 3 cf])
  .ret)
  .skip))
  (.seq (io [ef 21 0 0 t1, el 22 false 1 t21, eb 23 .sub t22 (ci 1), eb 24 .quo t23 (ci 400), em 4 t24])
  (.seq (io [em 25 t4, eb 26 .mul t25 (ci 146097), em 5 t26])
  (.seq (.seq (io [em 27 t4, eb 28 .mul (ci 400) t27, eb 29 .add t28 (ci 1), em 6 t29])
  (.block 0 (.loop (.seq (.seq (io [em 30 t6, ef 31 0 0 t1, el 32 false 1 t31, eb 33 .lss t30 t32])
  (.cond t33
  .skip
  (.exit 0)))
  (.seq (.block 1 (.ops [em 36 t5, em 37 t6, ec 38 43 [t37], eb 39 .add t36 t38, em 5 t39]))
  (.ops [em 34 t6, eb 35 .add t34 (ci 1), em 6 t35]))))))
  (.seq (.seq (io [em 7 (ci 1)])
  (.block 2 (.loop (.seq (.seq (io [em 40 t7, ef 41 1 1 t1, el 42 false 1 t41, eb 43 .lss t40 t42])
  (.cond t43
  .skip
  (.exit 2)))
  (.seq (.block 3 (.ops [em 46 t5, ef 47 0 0 t1, el 48 false 1 t47, em 49 t7, ec 50 44 [t48, t49], eb 51 .add t46 t50, em 5 t51]))
  (.ops [em 44 t7, eb 45 .add t44 (ci 1), em 7 t45]))))))
  (.seq (io [em 52 t5, ef 53 2 2 t1, el 54 false 1 t53, eb 55 .add t52 t54, em 2 t55, em 3 ct])
  .ret)))))))
theorem hc_r2_Number : compF Tryd.prog 56 Tryd.f22 = some (ic_r2_Number, [.t 2, .t 3]) := by kernel_rfl

theorem fn_r21_tried : Tryd.prog.funcs[r21_tried]? = some Tryd.f23 := Tryd.func23
theorem nt_r21_tried : Tryd.f23.ntmps = 18 := Tryd.ntmps23
def ic_r21_tried : IC := (.seq (io [.o 2 (.box t0), em 4 cf])
  (.seq (io [el 8 true 6 t2, ec 9 7 [t8], em 7 t9, ex 10 0 t7, ex 11 1 t7, em 5 t10, em 6 t11])
  (.seq (io [em 12 t6, em 13 t12, .og 14 13 true (.mv t5), .og 15 13 true (.mv t1), .og 16 13 true (.sop .eql t14 t15), .o 17 (.pick t13 t16 cf), em 4 t17])
  .ret)))
theorem hc_r21_tried : compF Tryd.prog 18 Tryd.f23 = some (ic_r21_tried, [.t 4]) := by kernel_rfl

theorem fn_calendar_Civil : Tryd.prog.funcs[calendar_Civil]? = some Tryd.f24 := Tryd.func24
theorem nt_calendar_Civil : Tryd.f24.ntmps = 73 := Tryd.ntmps24
def ic_calendar_Civil : IC := (.seq (io [.o 2 (.alloc (.st (zc (zc (zc .nil))))), em 3 cf])
  (.seq (.seq (io [em 10 t0, eb 11 .lss t10 (ci 1), em 12 t11, .og 13 12 false (.mv t0), .og 14 12 false (.bin .gtr t13 (ci 3652059)), .o 15 (.pick t12 ct t14)])
  (.cond t15
  (.seq (io [.o 16 (.build (.st (zc (zc (zc .nil)))) []), .n (.sto 3 t2 t16), em 3 cf])
  .ret)
  .skip))
  (.seq (io [em 17 t0, eb 18 .sub t17 (ci 1), em 4 t18])
  (.seq (io [em 19 t4, eb 20 .quo t19 (ci 146097), eb 21 .mul (ci 400) t20, eb 22 .add t21 (ci 1), em 5 t22])
  (.seq (io [em 23 t4, eb 24 .rem t23 (ci 146097), em 4 t24])
  (.seq (io [em 25 t4, eb 26 .quo t25 (ci 36524), .o 27 (.mm false t26 (ci 3)), em 6 t27])
  (.seq (io [em 28 t4, em 29 t6, eb 30 .mul t29 (ci 36524), eb 31 .sub t28 t30, em 4 t31])
  (.seq (io [em 32 t4, eb 33 .quo t32 (ci 1461), em 7 t33])
  (.seq (io [em 34 t4, eb 35 .rem t34 (ci 1461), em 4 t35])
  (.seq (io [em 36 t4, eb 37 .quo t36 (ci 365), .o 38 (.mm false t37 (ci 3)), em 8 t38])
  (.seq (io [em 39 t4, em 40 t8, eb 41 .mul t40 (ci 365), eb 42 .sub t39 t41, em 4 t42])
  (.seq (io [em 43 t5, em 44 t6, eb 45 .mul (ci 100) t44, em 46 t7, eb 47 .mul (ci 4) t46, eb 48 .add t45 t47, em 49 t8, eb 50 .add t48 t49, eb 51 .add t43 t50, em 5 t51])
  (.seq (io [em 9 (ci 1)])
  (.seq (.block 0 (.loop (.seq (.seq (io [em 52 t9, eb 53 .lss t52 (ci 12), em 54 t53, .og 55 54 true (.mv t4), .og 56 54 true (.mv t5), .og 57 54 true (.mv t9), .og 58 54 true (.bin .add t57 (ci 1)), .og 59 54 true (.call 45 [t56, t58]), .og 60 54 true (.bin .geq t55 t59), .o 61 (.pick t54 t60 cf)])
  (.cond t61
  .skip
  (.exit 0)))
  (.block 1 (.ops [em 62 t9, eb 63 .add t62 (ci 1), em 9 t63])))))
  (.seq (io [em 64 t5, em 65 t9, em 66 t4, em 67 t5, em 68 t9, ec 69 45 [t67, t68], eb 70 .sub t66 t69, eb 71 .add t70 (ci 1), .o 72 (.build (.st (zc (zc (zc .nil)))) [(0, 0, 1, t64), (1, 1, 1, t65), (2, 2, 1, t71)]), .n (.sto 3 t2 t72), em 3 ct])
  .ret)))))))))))))))
theorem hc_calendar_Civil : compF Tryd.prog 73 Tryd.f24 = some (ic_calendar_Civil, [.c 2 true 3, .t 3]) := by kernel_rfl

theorem fn_calendar_put : Tryd.prog.funcs[calendar_put]? = some Tryd.f25 := Tryd.func25
theorem nt_calendar_put : Tryd.f25.ntmps = 21 := Tryd.ntmps25
def ic_calendar_put : IC := (.seq (io [em 5 t0, .o 6 (.len t5), eb 7 .sub t6 (ci 1), em 4 t7])
  (.block 0 (.loop (.seq (.seq (io [em 8 t4, eb 9 .geq t8 (ci 0)])
  (.cond t9
  .skip
  (.exit 0)))
  (.seq (.block 1 (.seq (io [em 12 t0, em 13 t4, em 14 t1, eb 15 .rem t14 (ci 10), eb 16 .add (ci 48) t15, .o 17 (.conv .u8 t16), es 18 1 t12 t13, .n (.sto 1 t18 t17)])
  (.ops [em 19 t1, eb 20 .quo t19 (ci 10), em 1 t20])))
  (.ops [em 10 t4, eb 11 .sub t10 (ci 1), em 4 t11]))))))
theorem hc_calendar_put : compF Tryd.prog 21 Tryd.f25 = some (ic_calendar_put, []) := by kernel_rfl

theorem fn_internal_strconv_Itoa : Tryd.prog.funcs[internal_strconv_Itoa]? = some Tryd.f26 := Tryd.func26
theorem nt_internal_strconv_Itoa : Tryd.f26.ntmps = 5 := Tryd.ntmps26
def ic_internal_strconv_Itoa : IC := (.seq (io [em 2 (.c (.string ⟨#[]⟩))])
  (.seq (io [em 3 t0, ec 4 46 [t3, (ci 10)], em 2 t4])
  .ret))
theorem hc_internal_strconv_Itoa : compF Tryd.prog 5 Tryd.f26 = some (ic_internal_strconv_Itoa, [.t 2]) := by kernel_rfl

theorem fn_money_magnitude : Tryd.prog.funcs[money_magnitude]? = some Tryd.f27 := Tryd.func27
theorem nt_money_magnitude : Tryd.f27.ntmps = 10 := Tryd.ntmps27
def ic_money_magnitude : IC := (.seq (io [em 2 (.c (.int .u64 0))])
  (.seq (.seq (io [em 3 t0, eb 4 .lss t3 (ci 0)])
  (.cond t4
  (.seq (io [em 5 t0, .o 6 (.conv .u64 t5), .o 7 (.un .neg t6), em 2 t7])
  .ret)
  .skip))
  (.seq (io [em 8 t0, .o 9 (.conv .u64 t8), em 2 t9])
  .ret)))
theorem hc_money_magnitude : compF Tryd.prog 10 Tryd.f27 = some (ic_money_magnitude, [.t 2]) := by kernel_rfl

theorem fn_strconv_AppendUint : Tryd.prog.funcs[strconv_AppendUint]? = some Tryd.f28 := Tryd.func28
theorem nt_strconv_AppendUint : Tryd.f28.ntmps = 11 := Tryd.ntmps28
def ic_strconv_AppendUint : IC := (.seq (io [em 6 (.c (.slice none 0 0))])
  (.seq (io [em 7 t0, em 8 t1, em 9 t2, ec 10 47 [t7, t8, t9], em 6 t10])
  .ret))
theorem hc_strconv_AppendUint : compF Tryd.prog 11 Tryd.f28 = some (ic_strconv_AppendUint, [.t 6]) := by kernel_rfl

theorem fn_internal_stringslite_Cut : Tryd.prog.funcs[internal_stringslite_Cut]? = some Tryd.f29 := Tryd.func29
theorem nt_internal_stringslite_Cut : Tryd.f29.ntmps = 23 := Tryd.ntmps29
def ic_internal_stringslite_Cut : IC := (.seq (io [em 4 (.c (.string ⟨#[]⟩)), em 5 (.c (.string ⟨#[]⟩)), em 6 cf])
  (.seq (.seq (io [em 8 t0, em 9 t1, ec 10 48 [t8, t9], em 7 t10])
  (.seq (io [em 11 t7, eb 12 .geq t11 (ci 0)])
  (.cond t12
  (.seq (.dops [em 13 t0, em 14 t7, .o 15 (.sls t13 .no t14), em 16 t0, em 17 t7, em 18 t1, .o 19 (.lens t18), eb 20 .add t17 t19, .o 21 (.sls t16 t20 .no), em 4 t15, em 5 t21, em 6 ct])
  .ret)
  .skip)))
  (.seq (io [em 22 t0, em 4 t22, em 5 (.c (.string ⟨#[]⟩)), em 6 cf])
  .ret)))
theorem hc_internal_stringslite_Cut : compF Tryd.prog 23 Tryd.f29 = some (ic_internal_stringslite_Cut, [.t 4, .t 5, .t 6]) := by kernel_rfl

theorem fn_internal_stringslite_TrimPrefix : Tryd.prog.funcs[internal_stringslite_TrimPrefix]? = some Tryd.f30 := Tryd.func30
theorem nt_internal_stringslite_TrimPrefix : Tryd.f30.ntmps = 13 := Tryd.ntmps30
def ic_internal_stringslite_TrimPrefix : IC := (.seq (io [em 4 (.c (.string ⟨#[]⟩))])
  (.seq (.seq (io [em 5 t0, em 6 t1, ec 7 49 [t5, t6]])
  (.cond t7
  (.seq (io [em 8 t0, em 9 t1, .o 10 (.lens t9), .o 11 (.sls t8 t10 .no), em 4 t11])
  .ret)
  .skip))
  (.seq (io [em 12 t0, em 4 t12])
  .ret)))
theorem hc_internal_stringslite_TrimPrefix : compF Tryd.prog 13 Tryd.f30 = some (ic_internal_stringslite_TrimPrefix, [.t 4]) := by kernel_rfl

theorem fn_strconv_Atoi : Tryd.prog.funcs[strconv_Atoi]? = some Tryd.f31 := Tryd.func31
theorem nt_strconv_Atoi : Tryd.f31.ntmps = 18 := Tryd.ntmps31
def ic_strconv_Atoi : IC := (.seq (io [em 2 (ci 0), em 3 (.c (.nilIface))])
  (.seq (io [em 7 t0, ec 8 50 [t7], em 6 t8, ex 9 0 t6, ex 10 1 t6, em 4 t9, em 5 t10])
  (.seq (.seq (io [em 11 t5, .o 12 (.eqn true t11)])
  (.cond t12
  (.seq (io [em 13 t4, em 14 t0, em 15 t5, .o 16 (.call 51 [(.c (.string ⟨#[65, 116, 111, 105]⟩)), t14, (ci 0), (ci 0), t15]), em 2 t13, em 3 t16])
  .ret)
  .skip))
  (.seq (io [em 17 t4, em 2 t17, em 3 (.c (.nilIface))])
  .ret))))
theorem hc_strconv_Atoi : compF Tryd.prog 18 Tryd.f31 = some (ic_strconv_Atoi, [.t 2, .t 3]) := by kernel_rfl

theorem fn_calendar_digits : Tryd.prog.funcs[calendar_digits]? = some Tryd.f32 := Tryd.func32
theorem nt_calendar_digits : Tryd.f32.ntmps = 28 := Tryd.ntmps32
def ic_calendar_digits : IC := (.seq (io [em 2 (ci 0), em 3 cf])
  (.seq (io [em 4 (ci 0)])
  (.seq (.seq (io [em 7 t0, .o 8 (.s2b 5 t7), .o 9 (.len t8), em 10 (ci 0)])
  (.block 0 (.loop (.seq (io [eb 11 .lss t10 t9])
  (.seq (.cond t11
  .skip
  (.exit 0))
  (.seq (.block 1 (.seq (io [es 12 1 t8 t10, el 13 false 1 t12, em 6 t13])
  (.seq (.seq (io [em 14 t6, eb 15 .lss t14 (.c (.int .u8 48)), em 16 t15, .og 17 16 false (.mv t6), .og 18 16 false (.bin .gtr t17 (.c (.int .u8 57))), .o 19 (.pick t16 ct t18)])
  (.cond t19
  (.seq (io [em 2 (ci 0), em 3 cf])
  .ret)
  .skip))
  (.ops [em 20 t4, eb 21 .mul (ci 10) t20, em 22 t6, eb 23 .sub t22 (.c (.int .u8 48)), .o 24 (.conv .i64 t23), eb 25 .add t21 t24, em 4 t25]))))
  (.ops [eb 26 .add t10 (ci 1), em 10 t26])))))))
  (.seq (io [em 27 t4, em 2 t27, em 3 ct])
  .ret))))
theorem hc_calendar_digits : compF Tryd.prog 28 Tryd.f32 = some (ic_calendar_digits, [.t 2, .t 3]) := by kernel_rfl

theorem fn_calendar_Number : Tryd.prog.funcs[calendar_Number]? = some Tryd.f33 := Tryd.func33
theorem nt_calendar_Number : Tryd.f33.ntmps = 53 := Tryd.ntmps33
def ic_calendar_Number : IC := (.seq (io [.o 1 (.box t0), em 2 (ci 0), em 3 cf])
  (.seq (.seq (.dops [ef 6 2 2 t1, el 7 false 1 t6, eb 8 .lss t7 (ci 1), em 9 t8, .og 10 9 false (.fa 2 2 t1), .og 11 9 false (.ld false 1 t10), .og 12 9 false (.fa 0 0 t1), .og 13 9 false (.ld false 1 t12), .og 14 9 false (.fa 1 1 t1), .og 15 9 false (.ld false 1 t14), .og 16 9 false (.call 52 [t13, t15]), .og 17 9 false (.bin .gtr t11 t16), .o 18 (.pick t9 ct t17)])
  (.cond t18
  (.seq (io [em 2 (ci 0), em 3 cf])
  .ret)
  .skip))
  (.seq (io [ef 19 0 0 t1, el 20 false 1 t19, eb 21 .sub t20 (ci 1), em 4 t21])
  (.seq (.dops [em 22 t4, eb 23 .mul (ci 365) t22, em 24 t4, eb 25 .quo t24 (ci 4), eb 26 .add t23 t25, em 27 t4, eb 28 .quo t27 (ci 100), eb 29 .sub t26 t28, em 30 t4, eb 31 .quo t30 (ci 400), eb 32 .add t29 t31, ef 33 1 1 t1, el 34 false 1 t33, eb 35 .sub t34 (ci 1), .o 36 (.ixa 13 1 (.g 0) t35), el 37 false 1 t36, eb 38 .add t32 t37, ef 39 2 2 t1, el 40 false 1 t39, eb 41 .add t38 t40, em 5 t41])
  (.seq (.seq (io [ef 42 1 1 t1, el 43 false 1 t42, eb 44 .gtr t43 (ci 2), em 45 t44, .og 46 45 true (.fa 0 0 t1), .og 47 45 true (.ld false 1 t46), .og 48 45 true (.call 53 [t47]), .o 49 (.pick t45 t48 cf)])
  (.cond t49
  (.ops [em 50 t5, eb 51 .add t50 (ci 1), em 5 t51])
  .skip))
  (.seq (io [em 52 t5, em 2 t52, em 3 ct])
  .ret))))))
theorem hc_calendar_Number : compF Tryd.prog 53 Tryd.f33 = some (ic_calendar_Number, [.t 2, .t 3]) := by kernel_rfl

theorem fn_strings_CutPrefix : Tryd.prog.funcs[strings_CutPrefix]? = some Tryd.f34 := Tryd.func34
theorem nt_strings_CutPrefix : Tryd.f34.ntmps = 11 := Tryd.ntmps34
def ic_strings_CutPrefix : IC := (.seq (io [em 4 (.c (.string ⟨#[]⟩)), em 5 cf])
  (.seq (io [em 6 t0, em 7 t1, ec 8 54 [t6, t7], ex 9 0 t8, ex 10 1 t8, em 4 t9, em 5 t10])
  .ret))
theorem hc_strings_CutPrefix : compF Tryd.prog 11 Tryd.f34 = some (ic_strings_CutPrefix, [.t 4, .t 5]) := by kernel_rfl

theorem fn_strings_CutSuffix : Tryd.prog.funcs[strings_CutSuffix]? = some Tryd.f35 := Tryd.func35
theorem nt_strings_CutSuffix : Tryd.f35.ntmps = 11 := Tryd.ntmps35
def ic_strings_CutSuffix : IC := (.seq (io [em 4 (.c (.string ⟨#[]⟩)), em 5 cf])
  (.seq (io [em 6 t0, em 7 t1, ec 8 55 [t6, t7], ex 9 0 t8, ex 10 1 t8, em 4 t9, em 5 t10])
  .ret))
theorem hc_strings_CutSuffix : compF Tryd.prog 11 Tryd.f35 = some (ic_strings_CutSuffix, [.t 4, .t 5]) := by kernel_rfl

theorem fn_money_Parse : Tryd.prog.funcs[money_Parse]? = some Tryd.f36 := Tryd.func36
theorem nt_money_Parse : Tryd.f36.ntmps = 85 := Tryd.ntmps36
def ic_money_Parse : IC := (.seq (io [em 2 (ci 0), em 3 cf])
  (.seq (io [em 10 t0, em 4 t10])
  (.seq (io [em 11 t4, .o 12 (.lens t11), eb 13 .gtr t12 (ci 0), em 14 t13, .og 15 14 true (.mv t4), .og 16 14 true (.ixb t15 (ci 0)), .og 17 14 true (.bin .eql t16 (.c (.int .u8 45))), .o 18 (.pick t14 t17 cf), em 5 t18])
  (.seq (.seq (io [em 19 t5])
  (.cond t19
  (.ops [em 20 t4, .o 21 (.sls t20 (ci 1) .no), em 4 t21])
  .skip))
  (.seq (io [em 22 t4, .o 23 (.lens t22), eb 24 .sub t23 (ci 3), em 6 t24])
  (.seq (.seq (io [em 25 t6, eb 26 .lss t25 (ci 1), em 27 t26, .og 28 27 false (.mv t4), .og 29 27 false (.mv t6), .og 30 27 false (.ixb t28 t29), .og 31 27 false (.bin .neq t30 (.c (.int .u8 46))), .o 32 (.pick t27 ct t31), em 33 t32, .og 34 33 false (.mv t4), .og 35 33 false (.ixb t34 (ci 0)), .og 36 33 false (.bin .eql t35 (.c (.int .u8 48))), .og 37 33 false (.mv t36), .og 38 37 true (.mv t6), .og 39 37 true (.bin .gtr t38 (ci 1)), .og 40 33 false (.pick t37 t39 cf), .o 41 (.pick t33 ct t40)])
  (.cond t41
  (.seq (io [em 2 (ci 0), em 3 cf])
  .ret)
  .skip))
  (.seq (io [em 7 (.c (.int .u64 0))])
  (.seq (.seq (io [em 8 (ci 0)])
  (.block 0 (.loop (.seq (.seq (io [em 42 t8, em 43 t4, .o 44 (.lens t43), eb 45 .lss t42 t44])
  (.cond t45
  .skip
  (.exit 0)))
  (.seq (.block 1 (.seq (.seq (io [em 48 t8, em 49 t6, eb 50 .eql t48 t49])
  (.cond t50
  (.exit 1)
  .skip))
  (.seq (.seq (io [em 51 t4, em 52 t8, .o 53 (.ixb t51 t52), eb 54 .lss t53 (.c (.int .u8 48)), em 55 t54, .og 56 55 false (.mv t4), .og 57 55 false (.mv t8), .og 58 55 false (.ixb t56 t57), .og 59 55 false (.bin .gtr t58 (.c (.int .u8 57))), .o 60 (.pick t55 ct t59)])
  (.cond t60
  (.seq (io [em 2 (ci 0), em 3 cf])
  .ret)
  .skip))
  (.seq (io [em 61 t4, em 62 t8, .o 63 (.ixb t61 t62), eb 64 .sub t63 (.c (.int .u8 48)), .o 65 (.conv .u64 t64), em 9 t65])
  (.seq (.seq (io [em 66 t7, em 67 t9, eb 68 .sub (.c (.int .u64 9223372036854775808)) t67, eb 69 .quo t68 (.c (.int .u64 10)), eb 70 .gtr t66 t69])
  (.cond t70
  (.seq (io [em 2 (ci 0), em 3 cf])
  .ret)
  .skip))
  (.ops [em 71 t7, eb 72 .mul (.c (.int .u64 10)) t71, em 73 t9, eb 74 .add t72 t73, em 7 t74]))))))
  (.ops [em 46 t8, eb 47 .add t46 (ci 1), em 8 t47]))))))
  (.seq (.seq (io [em 75 t5, em 76 t75, .og 77 76 true (.mv t7), .og 78 76 true (.bin .eql t77 (.c (.int .u64 0))), .o 79 (.pick t76 t78 cf)])
  (.cond t79
  (.seq (io [em 2 (ci 0), em 3 cf])
  .ret)
  .skip))
  (.seq (io [em 80 t5, em 81 t7, ec 82 56 [t80, t81], ex 83 0 t82, ex 84 1 t82, em 2 t83, em 3 t84])
  .ret))))))))))
theorem hc_money_Parse : compF Tryd.prog 85 Tryd.f36 = some (ic_money_Parse, [.t 2, .t 3]) := by kernel_rfl

theorem fn_r2_Civil : Tryd.prog.funcs[r2_Civil]? = some Tryd.f37 := Tryd.func37
theorem nt_r2_Civil : Tryd.f37.ntmps = 48 := Tryd.ntmps37
def ic_r2_Civil : IC := (.seq (io [.o 2 (.alloc (.st (zc (zc (zc .nil))))), em 3 cf])
  (.seq (.seq (io [em 8 t0, ec 9 57 [t8], .o 10 (.un .not t9)])
  (.cond t10
  (.seq (io [.o 11 (.build (.st (zc (zc (zc .nil)))) []), .n (.sto 3 t2 t11), em 3 cf])
  .ret)
  .skip))
  (.seq (io [em 12 t0, eb 13 .sub t12 (ci 1), eb 14 .quo t13 (ci 146097), em 4 t14])
  (.seq (io [em 15 t0, em 16 t4, eb 17 .mul t16 (ci 146097), eb 18 .sub t15 t17, em 5 t18])
  (.seq (io [em 19 t4, eb 20 .mul (ci 400) t19, eb 21 .add t20 (ci 1), em 6 t21])
  (.seq (.block 0 (.loop (.seq (.seq (io [em 22 t5, em 23 t6, ec 24 43 [t23], eb 25 .gtr t22 t24])
  (.cond t25
  .skip
  (.exit 0)))
  (.block 1 (.seq (io [em 26 t5, em 27 t6, ec 28 43 [t27], eb 29 .sub t26 t28, em 5 t29])
  (.ops [em 30 t6, eb 31 .add t30 (ci 1), em 6 t31]))))))
  (.seq (io [em 7 (ci 1)])
  (.seq (.block 2 (.loop (.seq (.seq (io [em 32 t5, em 33 t6, em 34 t7, ec 35 44 [t33, t34], eb 36 .gtr t32 t35])
  (.cond t36
  .skip
  (.exit 2)))
  (.block 3 (.seq (io [em 37 t5, em 38 t6, em 39 t7, ec 40 44 [t38, t39], eb 41 .sub t37 t40, em 5 t41])
  (.ops [em 42 t7, eb 43 .add t42 (ci 1), em 7 t43]))))))
  (.seq (io [em 44 t6, em 45 t7, em 46 t5, .o 47 (.build (.st (zc (zc (zc .nil)))) [(0, 0, 1, t44), (1, 1, 1, t45), (2, 2, 1, t46)]), .n (.sto 3 t2 t47), em 3 ct])
  .ret)))))))))
theorem hc_r2_Civil : compF Tryd.prog 48 Tryd.f37 = some (ic_r2_Civil, [.c 2 true 3, .t 3]) := by kernel_rfl

theorem fn_r2_padded : Tryd.prog.funcs[r2_padded]? = some Tryd.f38 := Tryd.func38
theorem nt_r2_padded : Tryd.f38.ntmps = 15 := Tryd.ntmps38
def ic_r2_padded : IC := (.seq (io [em 4 (.c (.string ⟨#[]⟩))])
  (.seq (io [em 6 t0, ec 7 11 [t6], em 5 t7])
  (.seq (.block 0 (.loop (.seq (.seq (io [em 8 t5, .o 9 (.lens t8), em 10 t1, eb 11 .lss t9 t10])
  (.cond t11
  .skip
  (.exit 0)))
  (.block 1 (.ops [em 12 t5, .o 13 (.sop .add (.c (.string ⟨#[48]⟩)) t12), em 5 t13])))))
  (.seq (io [em 14 t5, em 4 t14])
  .ret))))
theorem hc_r2_padded : compF Tryd.prog 15 Tryd.f38 = some (ic_r2_padded, [.t 4]) := by kernel_rfl

theorem fn_r1_size : Tryd.prog.funcs[r1_size]? = some Tryd.f39 := Tryd.func39
theorem nt_r1_size : Tryd.f39.ntmps = 12 := Tryd.ntmps39
def ic_r1_size : IC := (.seq (io [em 2 (.c (.int .u64 0))])
  (.seq (.seq (io [em 3 t0, eb 4 .lss t3 (ci 0)])
  (.cond t4
  (.seq (io [em 5 t0, eb 6 .add t5 (ci 1), .o 7 (.un .neg t6), .o 8 (.conv .u64 t7), eb 9 .add t8 (.c (.int .u64 1)), em 2 t9])
  .ret)
  .skip))
  (.seq (io [em 10 t0, .o 11 (.conv .u64 t10), em 2 t11])
  .ret)))
theorem hc_r1_size : compF Tryd.prog 12 Tryd.f39 = some (ic_r1_size, [.t 2]) := by kernel_rfl

theorem fn_strconv_FormatUint : Tryd.prog.funcs[strconv_FormatUint]? = some Tryd.f40 := Tryd.func40
theorem nt_strconv_FormatUint : Tryd.f40.ntmps = 8 := Tryd.ntmps40
def ic_strconv_FormatUint : IC := (.seq (io [em 4 (.c (.string ⟨#[]⟩))])
  (.seq (io [em 5 t0, em 6 t1, ec 7 58 [t5, t6], em 4 t7])
  .ret))
theorem hc_strconv_FormatUint : compF Tryd.prog 8 Tryd.f40 = some (ic_strconv_FormatUint, [.t 4]) := by kernel_rfl

theorem fn_r21_digit : Tryd.prog.funcs[r21_digit]? = some Tryd.f41 := Tryd.func41
theorem nt_r21_digit : Tryd.f41.ntmps = 9 := Tryd.ntmps41
def ic_r21_digit : IC := (.seq (io [em 2 cf])
  (.seq (io [em 3 t0, eb 4 .geq t3 (.c (.int .u8 48)), em 5 t4, .og 6 5 true (.mv t0), .og 7 5 true (.bin .leq t6 (.c (.int .u8 57))), .o 8 (.pick t5 t7 cf), em 2 t8])
  .ret))
theorem hc_r21_digit : compF Tryd.prog 9 Tryd.f41 = some (ic_r21_digit, [.t 2]) := by kernel_rfl

theorem fn_r2_MonthLen : Tryd.prog.funcs[r2_MonthLen]? = some Tryd.f42 := Tryd.func42
theorem nt_r2_MonthLen : Tryd.f42.ntmps = 22 := Tryd.ntmps42
def ic_r2_MonthLen : IC := (.seq (io [em 4 (ci 0)])
  (.seq (.seq (io [em 5 t0, eb 6 .lss t5 (ci 1), em 7 t6, .og 8 7 false (.mv t0), .og 9 7 false (.bin .gtr t8 (ci 9999)), .o 10 (.pick t7 ct t9), em 11 t10, .og 12 11 false (.mv t1), .og 13 11 false (.bin .lss t12 (ci 1)), .o 14 (.pick t11 ct t13), em 15 t14, .og 16 15 false (.mv t1), .og 17 15 false (.bin .gtr t16 (ci 12)), .o 18 (.pick t15 ct t17)])
  (.cond t18
  (.seq (io [em 4 (ci 0)])
  .ret)
  .skip))
  (.seq (io [em 19 t0, em 20 t1, ec 21 44 [t19, t20], em 4 t21])
  .ret)))
theorem hc_r2_MonthLen : compF Tryd.prog 22 Tryd.f42 = some (ic_r2_MonthLen, [.t 4]) := by kernel_rfl

theorem fn_r2_yearLen : Tryd.prog.funcs[r2_yearLen]? = some Tryd.f43 := Tryd.func43
theorem nt_r2_yearLen : Tryd.f43.ntmps = 5 := Tryd.ntmps43
def ic_r2_yearLen : IC := (.seq (io [em 2 (ci 0)])
  (.seq (.seq (io [em 3 t0, ec 4 59 [t3]])
  (.cond t4
  (.seq (io [em 2 (ci 366)])
  .ret)
  .skip))
  (.seq (io [em 2 (ci 365)])
  .ret)))
theorem hc_r2_yearLen : compF Tryd.prog 5 Tryd.f43 = some (ic_r2_yearLen, [.t 2]) := by kernel_rfl

theorem fn_r2_lenOf : Tryd.prog.funcs[r2_lenOf]? = some Tryd.f44 := Tryd.func44
theorem nt_r2_lenOf : Tryd.f44.ntmps = 15 := Tryd.ntmps44
def ic_r2_lenOf : IC := (.seq (io [em 4 (ci 0)])
  (.seq (.seq (io [em 5 t1])
  (.block 0 (.seq (io [eb 7 .eql t5 (ci 2), em 6 t7])
  (.cond t6
  (.seq (.seq (io [em 8 t0, ec 9 59 [t8]])
  (.cond t9
  (.seq (io [em 4 (ci 29)])
  .ret)
  .skip))
  (.seq (io [em 4 (ci 28)])
  .ret))
  (.seq (.seq (io [eb 11 .eql t5 (ci 4), em 10 t11])
  (.cond t10
  .skip
  (.seq (io [eb 12 .eql t5 (ci 6), em 10 t12])
  (.cond t10
  .skip
  (.seq (io [eb 13 .eql t5 (ci 9), em 10 t13])
  (.cond t10
  .skip
  (.ops [eb 14 .eql t5 (ci 11), em 10 t14])))))))
  (.cond t10
  (.seq (io [em 4 (ci 30)])
  .ret)
  .skip))))))
  (.seq (io [em 4 (ci 31)])
  .ret)))
theorem hc_r2_lenOf : compF Tryd.prog 15 Tryd.f44 = some (ic_r2_lenOf, [.t 4]) := by kernel_rfl

theorem fn_calendar_start : Tryd.prog.funcs[calendar_start]? = some Tryd.f45 := Tryd.func45
theorem nt_calendar_start : Tryd.f45.ntmps = 19 := Tryd.ntmps45
def ic_calendar_start : IC := (.seq (io [em 4 (ci 0)])
  (.seq (io [em 6 t1, eb 7 .sub t6 (ci 1), .o 8 (.ixa 13 1 (.g 0) t7), el 9 false 1 t8, em 5 t9])
  (.seq (.seq (io [em 10 t1, eb 11 .gtr t10 (ci 2), em 12 t11, .og 13 12 true (.mv t0), .og 14 12 true (.call 53 [t13]), .o 15 (.pick t12 t14 cf)])
  (.cond t15
  (.ops [em 16 t5, eb 17 .add t16 (ci 1), em 5 t17])
  .skip))
  (.seq (io [em 18 t5, em 4 t18])
  .ret))))
theorem hc_calendar_start : compF Tryd.prog 19 Tryd.f45 = some (ic_calendar_start, [.t 4]) := by kernel_rfl

theorem fn_internal_strconv_FormatInt : Tryd.prog.funcs[internal_strconv_FormatInt]? = some Tryd.f46 := Tryd.func46
theorem nt_internal_strconv_FormatInt : Tryd.f46.ntmps = 54 := Tryd.ntmps46
def ic_internal_strconv_FormatInt : IC := (.seq (io [em 4 (.c (.string ⟨#[]⟩))])
  (.seq (.seq (io [em 10 t1, eb 11 .eql t10 (ci 10)])
  (.cond t11
  (.seq (.seq (io [em 12 t0, eb 13 .leq (ci 0) t12, em 14 t13, .og 15 14 true (.mv t0), .og 16 14 true (.bin .lss t15 (ci 100)), .o 17 (.pick t14 t16 cf)])
  (.cond t17
  (.seq (io [em 18 t0, ec 19 60 [t18], em 4 t19])
  .ret)
  .skip))
  (.seq (io [.o 5 (.alloc (.arr 24 1 fun _ => (.val (.int .u8 0))))])
  (.seq (io [em 20 t0, .o 21 (.conv .u64 t20), em 6 t21])
  (.seq (.seq (io [em 22 t0, eb 23 .lss t22 (ci 0)])
  (.cond t23
  (.ops [em 24 t6, .o 25 (.un .neg t24), em 6 t25])
  .skip))
  (.seq (io [em 26 t6, ec 27 61 [t26], em 7 t27])
  (.seq (io [em 28 t7, eb 29 .add (ci 1) t28, .o 30 (.sla 24 1 5 t5 (ci 1) t29), em 31 t6, ec 32 62 [t30, t31]])
  (.seq (.seq (io [em 33 t0, eb 34 .lss t33 (ci 0)])
  (.cond t34
  (.seq (io [.o 35 (.ixa 24 1 t5 (ci 0)), .n (.sto 1 t35 (.c (.int .u8 45)))])
  (.seq (io [em 36 t7, eb 37 .add (ci 1) t36, .o 38 (.sla 24 1 5 t5 .no t37), .o 39 (.b2s t38), em 4 t39])
  .ret))
  .skip))
  (.seq (io [em 40 t7, eb 41 .add (ci 1) t40, .o 42 (.sla 24 1 5 t5 (ci 1) t41), .o 43 (.b2s t42), em 4 t43])
  .ret))))))))
  .skip))
  (.seq (io [em 45 t0, .o 46 (.conv .u64 t45), em 47 t1, em 48 t0, eb 49 .lss t48 (ci 0), ec 50 63 [(.c (.slice none 0 0)), t46, t47, t49, cf], em 44 t50, ex 51 0 t44, ex 52 1 t44, em 8 t51, em 9 t52])
  (.seq (io [em 53 t9, em 4 t53])
  .ret))))
theorem hc_internal_strconv_FormatInt : compF Tryd.prog 54 Tryd.f46 = some (ic_internal_strconv_FormatInt, [.t 4]) := by kernel_rfl

theorem fn_internal_strconv_AppendUint : Tryd.prog.funcs[internal_strconv_AppendUint]? = some Tryd.f47 := Tryd.func47
theorem nt_internal_strconv_AppendUint : Tryd.f47.ntmps = 36 := Tryd.ntmps47
def ic_internal_strconv_AppendUint : IC := (.seq (io [em 6 (.c (.slice none 0 0))])
  (.seq (.seq (io [em 9 t2, eb 10 .eql t9 (ci 10)])
  (.cond t10
  (.seq (.seq (io [em 11 t1, eb 12 .lss t11 (.c (.int .u64 100))])
  (.cond t12
  (.seq (io [em 13 t0, em 14 t1, .o 15 (.conv .i64 t14), ec 16 60 [t15], .o 17 (.aps 5 t13 t16), em 6 t17])
  .ret)
  .skip))
  (.seq (io [.o 7 (.alloc (.arr 24 1 fun _ => (.val (.int .u8 0))))])
  (.seq (io [em 18 t1, ec 19 61 [t18], em 8 t19])
  (.seq (io [em 20 t8, .o 21 (.sla 24 1 5 t7 .no t20), em 22 t1, ec 23 62 [t21, t22]])
  (.seq (io [em 24 t0, em 25 t8, .o 26 (.sla 24 1 5 t7 .no t25), .o 27 (.app 1 1 5 t24 t26), em 6 t27])
  .ret)))))
  .skip))
  (.seq (io [em 29 t0, em 30 t1, em 31 t2, ec 32 63 [t29, t30, t31, cf, ct], em 28 t32, ex 33 0 t28, ex 34 1 t28, em 0 t33])
  (.seq (io [em 35 t0, em 6 t35])
  .ret))))
theorem hc_internal_strconv_AppendUint : compF Tryd.prog 36 Tryd.f47 = some (ic_internal_strconv_AppendUint, [.t 6]) := by kernel_rfl

theorem fn_internal_stringslite_Index : Tryd.prog.funcs[internal_stringslite_Index]? = some Tryd.f48 := Tryd.func48
theorem nt_internal_stringslite_Index : Tryd.f48.ntmps = 143 := Tryd.ntmps48
def ic_internal_stringslite_Index : IC := (.seq (io [em 4 (ci 0)])
  (.seq (io [em 14 t1, .o 15 (.lens t14), em 5 t15])
  (.seq (.block 0 (.seq (io [em 17 t5, eb 18 .eql t17 (ci 0), em 19 t18, .og 20 19 false (.mv t1), .og 21 19 false (.mv t0), .og 22 19 false (.sop .eql t20 t21), .o 23 (.pick t19 ct t22), em 16 t23])
  (.cond t16
  (.seq (io [em 4 (ci 0)])
  .ret)
  (.seq (io [em 25 t5, eb 26 .eql t25 (ci 1), em 24 t26])
  (.cond t24
  (.seq (io [em 27 t0, em 28 t1, .o 29 (.ixb t28 (ci 0)), ec 30 64 [t27, t29], em 4 t30])
  .ret)
  (.seq (io [em 32 t5, em 33 t0, .o 34 (.lens t33), eb 35 .geq t32 t34, em 31 t35])
  (.cond t31
  (.seq (io [em 4 (ci (-1))])
  .ret)
  (.seq (io [em 37 t5, el 38 false 1 (.g 1), eb 39 .leq t37 t38, em 40 t39, .og 41 40 true (.mv t0), .og 42 40 true (.lens t41), .og 43 40 true (.bin .leq t42 (ci 64)), .o 44 (.pick t40 t43 cf), em 36 t44])
  (.cond t36
  (.seq (io [em 45 t0, em 46 t1, .o 47 (.xcall 65 [t45, t46]), em 4 t47])
  .ret)
  .skip)))))))))
  (.seq (io [em 48 t1, .o 49 (.ixb t48 (ci 0)), em 6 t49])
  (.seq (io [em 50 t1, .o 51 (.ixb t50 (ci 1)), em 7 t51])
  (.seq (io [em 8 (ci 0)])
  (.seq (io [em 52 t0, .o 53 (.lens t52), em 54 t5, eb 55 .sub t53 t54, eb 56 .add t55 (ci 1), em 9 t56])
  (.seq (io [em 10 (ci 0)])
  (.seq (.block 1 (.loop (.seq (.seq (io [em 57 t8, em 58 t9, eb 59 .lss t57 t58])
  (.cond t59
  .skip
  (.exit 1)))
  (.block 2 (.seq (.seq (io [em 60 t0, em 61 t8, .o 62 (.ixb t60 t61), em 63 t6, eb 64 .neq t62 t63])
  (.cond t64
  (.seq (io [em 65 t0, em 66 t8, eb 67 .add t66 (ci 1), em 68 t9, .o 69 (.sls t65 t67 t68), em 70 t6, ec 71 64 [t69, t70], em 11 t71])
  (.seq (.seq (io [em 72 t11, eb 73 .lss t72 (ci 0)])
  (.cond t73
  (.seq (io [em 4 (ci (-1))])
  .ret)
  .skip))
  (.ops [em 74 t8, em 75 t11, eb 76 .add t75 (ci 1), eb 77 .add t74 t76, em 8 t77])))
  .skip))
  (.seq (.seq (io [em 78 t0, em 79 t8, eb 80 .add t79 (ci 1), .o 81 (.ixb t78 t80), em 82 t7, eb 83 .eql t81 t82, em 84 t83, .og 85 84 true (.mv t0), .og 86 84 true (.mv t8), .og 87 84 true (.mv t8), .og 88 84 true (.mv t5), .og 89 84 true (.bin .add t87 t88), .og 90 84 true (.sls t85 t86 t89), .og 91 84 true (.mv t1), .og 92 84 true (.sop .eql t90 t91), .o 93 (.pick t84 t92 cf)])
  (.cond t93
  (.seq (io [em 94 t8, em 4 t94])
  .ret)
  .skip))
  (.seq (io [em 95 t8, eb 96 .add t95 (ci 1), em 8 t96])
  (.seq (io [em 97 t10, eb 98 .add t97 (ci 1), em 10 t98])
  (.seq (io [em 99 t5, el 100 false 1 (.g 1), eb 101 .leq t99 t100, em 102 t101, .og 103 102 true (.mv t10), .og 104 102 true (.mv t8), .og 105 102 true (.call 66 [t104]), .og 106 102 true (.bin .gtr t103 t105), .o 107 (.pick t102 t106 cf)])
  (.cond t107
  (.seq (io [em 108 t0, em 109 t8, .o 110 (.sls t108 t109 .no), em 111 t1, .o 112 (.xcall 65 [t110, t111]), em 12 t112])
  (.seq (.seq (io [em 113 t12, eb 114 .geq t113 (ci 0)])
  (.cond t114
  (.seq (io [em 115 t12, em 116 t8, eb 117 .add t115 t116, em 4 t117])
  .ret)
  .skip))
  (.seq (io [em 4 (ci (-1))])
  .ret)))
  (.seq (io [em 118 t5, el 119 false 1 (.g 1), eb 120 .gtr t118 t119, em 121 t120, .og 122 121 true (.mv t10), .og 123 121 true (.mv t8), .og 124 121 true (.bin .shr t123 (.c (.int .u64 4))), .og 125 121 true (.bin .add (ci 4) t124), .og 126 121 true (.bin .geq t122 t125), .o 127 (.pick t121 t126 cf), em 128 t127, .og 129 128 true (.mv t8), .og 130 128 true (.mv t9), .og 131 128 true (.bin .lss t129 t130), .o 132 (.pick t128 t131 cf)])
  (.cond t132
  (.seq (io [em 133 t0, em 134 t8, .o 135 (.sls t133 t134 .no), em 136 t1, ec 137 67 [t135, t136], em 13 t137])
  (.seq (.seq (io [em 138 t13, eb 139 .lss t138 (ci 0)])
  (.cond t139
  (.seq (io [em 4 (ci (-1))])
  .ret)
  .skip))
  (.seq (io [em 140 t8, em 141 t13, eb 142 .add t140 t141, em 4 t142])
  .ret)))
  .skip))))))))))))
  (.seq (io [em 4 (ci (-1))])
  .ret))))))))))
theorem hc_internal_stringslite_Index : compF Tryd.prog 143 Tryd.f48 = some (ic_internal_stringslite_Index, [.t 4]) := by kernel_rfl

theorem fn_internal_stringslite_HasPrefix : Tryd.prog.funcs[internal_stringslite_HasPrefix]? = some Tryd.f49 := Tryd.func49
theorem nt_internal_stringslite_HasPrefix : Tryd.f49.ntmps = 18 := Tryd.ntmps49
def ic_internal_stringslite_HasPrefix : IC := (.seq (io [em 4 cf])
  (.seq (io [em 5 t0, .o 6 (.lens t5), em 7 t1, .o 8 (.lens t7), eb 9 .geq t6 t8, em 10 t9, .og 11 10 true (.mv t0), .og 12 10 true (.mv t1), .og 13 10 true (.lens t12), .og 14 10 true (.sls t11 .no t13), .og 15 10 true (.mv t1), .og 16 10 true (.sop .eql t14 t15), .o 17 (.pick t10 t16 cf), em 4 t17])
  .ret))
theorem hc_internal_stringslite_HasPrefix : compF Tryd.prog 18 Tryd.f49 = some (ic_internal_stringslite_HasPrefix, [.t 4]) := by kernel_rfl

theorem fn_internal_strconv_Atoi : Tryd.prog.funcs[internal_strconv_Atoi]? = some Tryd.f50 := Tryd.func50
theorem nt_internal_strconv_Atoi : Tryd.f50.ntmps = 77 := Tryd.ntmps50
def ic_internal_strconv_Atoi : IC := (.seq (io [em 2 (ci 0), em 3 (.c (.nilIface))])
  (.seq (io [em 11 t0, .o 12 (.lens t11), em 4 t12])
  (.seq (.seq (io [em 13 cf, .og 14 13 true (.mv t4), .og 15 13 true (.bin .lss (ci 0) t14), .og 16 13 true (.mv t15), .og 17 16 true (.mv t4), .og 18 16 true (.bin .lss t17 (ci 10)), .og 19 13 true (.pick t16 t18 cf), .o 20 (.pick t13 t19 cf), em 21 t20, .og 22 21 false (.mv ct), .og 23 22 true (.mv t4), .og 24 22 true (.bin .lss (ci 0) t23), .og 25 22 true (.mv t24), .og 26 25 true (.mv t4), .og 27 25 true (.bin .lss t26 (ci 19)), .og 28 22 true (.pick t25 t27 cf), .og 29 21 false (.pick t22 t28 cf), .o 30 (.pick t21 ct t29)])
  (.cond t30
  (.seq (io [em 31 t0, em 5 t31])
  (.seq (.seq (io [em 32 t0, .o 33 (.ixb t32 (ci 0)), eb 34 .eql t33 (.c (.int .u8 45)), em 35 t34, .og 36 35 false (.mv t0), .og 37 35 false (.ixb t36 (ci 0)), .og 38 35 false (.bin .eql t37 (.c (.int .u8 43))), .o 39 (.pick t35 ct t38)])
  (.cond t39
  (.seq (io [em 40 t0, .o 41 (.sls t40 (ci 1) .no), em 0 t41])
  (.seq (io [em 42 t0, .o 43 (.lens t42), eb 44 .lss t43 (ci 1)])
  (.cond t44
  (.seq (io [.o 45 (.dead), em 2 (ci 0), em 3 t45])
  .ret)
  .skip)))
  .skip))
  (.seq (io [em 6 (ci 0)])
  (.seq (.seq (io [em 46 t0, .o 47 (.s2b 5 t46), .o 48 (.len t47), em 49 (ci 0)])
  (.block 0 (.loop (.seq (io [eb 50 .lss t49 t48])
  (.seq (.cond t50
  .skip
  (.exit 0))
  (.seq (.block 1 (.seq (io [es 51 1 t47 t49, el 52 false 1 t51, em 8 t52])
  (.seq (io [em 53 t8, eb 54 .sub t53 (.c (.int .u8 48)), em 8 t54])
  (.seq (.seq (io [em 55 t8, eb 56 .gtr t55 (.c (.int .u8 9))])
  (.cond t56
  (.seq (io [.o 57 (.dead), em 2 (ci 0), em 3 t57])
  .ret)
  .skip))
  (.ops [em 58 t6, eb 59 .mul t58 (ci 10), em 60 t8, .o 61 (.conv .i64 t60), eb 62 .add t59 t61, em 6 t62])))))
  (.ops [eb 63 .add t49 (ci 1), em 49 t63])))))))
  (.seq (.seq (io [em 64 t5, .o 65 (.ixb t64 (ci 0)), eb 66 .eql t65 (.c (.int .u8 45))])
  (.cond t66
  (.ops [em 67 t6, .o 68 (.un .neg t67), em 6 t68])
  .skip))
  (.seq (io [em 69 t6, em 2 t69, em 3 (.c (.nilIface))])
  .ret))))))
  .skip))
  (.seq (io [em 71 t0, ec 72 68 [t71, (ci 10), (ci 0)], em 70 t72, ex 73 0 t70, ex 74 1 t70, em 9 t73, em 10 t74])
  (.seq (io [em 75 t9, em 76 t10, em 2 t75, em 3 t76])
  .ret)))))
theorem hc_internal_strconv_Atoi : compF Tryd.prog 77 Tryd.f50 = some (ic_internal_strconv_Atoi, [.t 2, .t 3]) := by kernel_rfl

theorem fn_strconv_toError : Tryd.prog.funcs[strconv_toError]? = some Tryd.f51 := Tryd.func51
theorem nt_strconv_toError : Tryd.f51.ntmps = 43 := Tryd.ntmps51
def ic_strconv_toError : IC := (.seq (io [em 10 (.c (.nilIface))])
  (.seq (.seq (io [em 11 t4])
  (.block 0 (.seq (io [.o 13 (.dead), .o 14 (.dead), em 12 t14])
  (.cond t12
  (.seq (io [em 15 t0, em 16 t1, ec 17 69 [t15, t16], .o 18 (.dead), em 10 t18])
  .ret)
  (.seq (io [.o 20 (.dead), .o 21 (.dead), em 19 t21])
  (.cond t19
  (.seq (io [em 22 t0, em 23 t1, ec 24 70 [t22, t23], .o 25 (.dead), em 10 t25])
  .ret)
  (.seq (io [.o 27 (.dead), .o 28 (.dead), em 26 t28])
  (.cond t26
  (.seq (io [em 29 t0, em 30 t1, em 31 t2, ec 32 71 [t29, t30, t31], .o 33 (.dead), em 10 t33])
  .ret)
  (.seq (io [.o 35 (.dead), .o 36 (.dead), em 34 t36])
  (.cond t34
  (.seq (io [em 37 t0, em 38 t1, em 39 t3, ec 40 72 [t37, t38, t39], .o 41 (.dead), em 10 t41])
  .ret)
  .skip))))))))))
  (.seq (io [em 42 t4, em 10 t42])
  .ret)))
theorem hc_strconv_toError : compF Tryd.prog 43 Tryd.f51 = some (ic_strconv_toError, [.t 10]) := by kernel_rfl

theorem fn_calendar_MonthLen : Tryd.prog.funcs[calendar_MonthLen]? = some Tryd.f52 := Tryd.func52
theorem nt_calendar_MonthLen : Tryd.f52.ntmps = 37 := Tryd.ntmps52
def ic_calendar_MonthLen : IC := (.seq (io [em 4 (ci 0)])
  (.seq (.seq (io [em 6 t0, eb 7 .lss t6 (ci 1), em 8 t7, .og 9 8 false (.mv t0), .og 10 8 false (.bin .gtr t9 (ci 9999)), .o 11 (.pick t8 ct t10), em 12 t11, .og 13 12 false (.mv t1), .og 14 12 false (.bin .lss t13 (ci 1)), .o 15 (.pick t12 ct t14), em 16 t15, .og 17 16 false (.mv t1), .og 18 16 false (.bin .gtr t17 (ci 12)), .o 19 (.pick t16 ct t18)])
  (.cond t19
  (.seq (io [em 4 (ci 0)])
  .ret)
  .skip))
  (.seq (.dops [em 20 t1, .o 21 (.ixa 13 1 (.g 0) t20), el 22 false 1 t21, em 23 t1, eb 24 .sub t23 (ci 1), .o 25 (.ixa 13 1 (.g 0) t24), el 26 false 1 t25, eb 27 .sub t22 t26, em 5 t27])
  (.seq (.seq (io [em 28 t1, eb 29 .eql t28 (ci 2), em 30 t29, .og 31 30 true (.mv t0), .og 32 30 true (.call 53 [t31]), .o 33 (.pick t30 t32 cf)])
  (.cond t33
  (.ops [em 34 t5, eb 35 .add t34 (ci 1), em 5 t35])
  .skip))
  (.seq (io [em 36 t5, em 4 t36])
  .ret)))))
theorem hc_calendar_MonthLen : compF Tryd.prog 37 Tryd.f52 = some (ic_calendar_MonthLen, [.t 4]) := by kernel_rfl

theorem fn_calendar_Leap : Tryd.prog.funcs[calendar_Leap]? = some Tryd.f53 := Tryd.func53
theorem nt_calendar_Leap : Tryd.f53.ntmps = 22 := Tryd.ntmps53
def ic_calendar_Leap : IC := (.seq (io [em 2 cf])
  (.seq (.seq (io [em 3 t0, eb 4 .lss t3 (ci 1), em 5 t4, .og 6 5 false (.mv t0), .og 7 5 false (.bin .gtr t6 (ci 9999)), .o 8 (.pick t5 ct t7), em 9 t8, .og 10 9 false (.mv t0), .og 11 9 false (.bin .rem t10 (ci 4)), .og 12 9 false (.bin .neq t11 (ci 0)), .o 13 (.pick t9 ct t12)])
  (.cond t13
  (.seq (io [em 2 cf])
  .ret)
  .skip))
  (.seq (io [em 14 t0, eb 15 .rem t14 (ci 100), eb 16 .neq t15 (ci 0), em 17 t16, .og 18 17 false (.mv t0), .og 19 17 false (.bin .rem t18 (ci 400)), .og 20 17 false (.bin .eql t19 (ci 0)), .o 21 (.pick t17 ct t20), em 2 t21])
  .ret)))
theorem hc_calendar_Leap : compF Tryd.prog 22 Tryd.f53 = some (ic_calendar_Leap, [.t 2]) := by kernel_rfl

theorem fn_internal_stringslite_CutPrefix : Tryd.prog.funcs[internal_stringslite_CutPrefix]? = some Tryd.f54 := Tryd.func54
theorem nt_internal_stringslite_CutPrefix : Tryd.f54.ntmps = 15 := Tryd.ntmps54
def ic_internal_stringslite_CutPrefix : IC := (.seq (io [em 4 (.c (.string ⟨#[]⟩)), em 5 cf])
  (.seq (.seq (io [em 6 t0, em 7 t1, ec 8 49 [t6, t7], .o 9 (.un .not t8)])
  (.cond t9
  (.seq (io [em 10 t0, em 4 t10, em 5 cf])
  .ret)
  .skip))
  (.seq (io [em 11 t0, em 12 t1, .o 13 (.lens t12), .o 14 (.sls t11 t13 .no), em 4 t14, em 5 ct])
  .ret)))
theorem hc_internal_stringslite_CutPrefix : compF Tryd.prog 15 Tryd.f54 = some (ic_internal_stringslite_CutPrefix, [.t 4, .t 5]) := by kernel_rfl

theorem fn_internal_stringslite_CutSuffix : Tryd.prog.funcs[internal_stringslite_CutSuffix]? = some Tryd.f55 := Tryd.func55
theorem nt_internal_stringslite_CutSuffix : Tryd.f55.ntmps = 18 := Tryd.ntmps55
def ic_internal_stringslite_CutSuffix : IC := (.seq (io [em 4 (.c (.string ⟨#[]⟩)), em 5 cf])
  (.seq (.seq (io [em 6 t0, em 7 t1, ec 8 73 [t6, t7], .o 9 (.un .not t8)])
  (.cond t9
  (.seq (io [em 10 t0, em 4 t10, em 5 cf])
  .ret)
  .skip))
  (.seq (io [em 11 t0, em 12 t0, .o 13 (.lens t12), em 14 t1, .o 15 (.lens t14), eb 16 .sub t13 t15, .o 17 (.sls t11 .no t16), em 4 t17, em 5 ct])
  .ret)))
theorem hc_internal_stringslite_CutSuffix : compF Tryd.prog 18 Tryd.f55 = some (ic_internal_stringslite_CutSuffix, [.t 4, .t 5]) := by kernel_rfl

theorem fn_money_withSign : Tryd.prog.funcs[money_withSign]? = some Tryd.f56 := Tryd.func56
theorem nt_money_withSign : Tryd.f56.ntmps = 16 := Tryd.ntmps56
def ic_money_withSign : IC := (.seq (io [em 4 (ci 0), em 5 cf])
  (.seq (.seq (io [em 6 t0])
  (.cond t6
  (.seq (.seq (io [em 7 t1, eb 8 .gtr t7 (.c (.int .u64 9223372036854775808))])
  (.cond t8
  (.seq (io [em 4 (ci 0), em 5 cf])
  .ret)
  .skip))
  (.seq (io [em 9 t1, .o 10 (.un .neg t9), .o 11 (.conv .i64 t10), em 4 t11, em 5 ct])
  .ret))
  .skip))
  (.seq (.seq (io [em 12 t1, eb 13 .gtr t12 (.c (.int .u64 9223372036854775807))])
  (.cond t13
  (.seq (io [em 4 (ci 0), em 5 cf])
  .ret)
  .skip))
  (.seq (io [em 14 t1, .o 15 (.conv .i64 t14), em 4 t15, em 5 ct])
  .ret))))
theorem hc_money_withSign : compF Tryd.prog 16 Tryd.f56 = some (ic_money_withSign, [.t 4, .t 5]) := by kernel_rfl

theorem fn_r2_isDay : Tryd.prog.funcs[r2_isDay]? = some Tryd.f57 := Tryd.func57
theorem nt_r2_isDay : Tryd.f57.ntmps = 9 := Tryd.ntmps57
def ic_r2_isDay : IC := (.seq (io [em 2 cf])
  (.seq (io [em 3 t0, eb 4 .geq t3 (ci 1), em 5 t4, .og 6 5 true (.mv t0), .og 7 5 true (.bin .leq t6 (ci 3652059)), .o 8 (.pick t5 t7 cf), em 2 t8])
  .ret))
theorem hc_r2_isDay : compF Tryd.prog 9 Tryd.f57 = some (ic_r2_isDay, [.t 2]) := by kernel_rfl

theorem fn_internal_strconv_FormatUint : Tryd.prog.funcs[internal_strconv_FormatUint]? = some Tryd.f58 := Tryd.func58
theorem nt_internal_strconv_FormatUint : Tryd.f58.ntmps = 32 := Tryd.ntmps58
def ic_internal_strconv_FormatUint : IC := (.seq (io [em 4 (.c (.string ⟨#[]⟩))])
  (.seq (.seq (io [em 9 t1, eb 10 .eql t9 (ci 10)])
  (.cond t10
  (.seq (.seq (io [em 11 t0, eb 12 .lss t11 (.c (.int .u64 100))])
  (.cond t12
  (.seq (io [em 13 t0, .o 14 (.conv .i64 t13), ec 15 60 [t14], em 4 t15])
  .ret)
  .skip))
  (.seq (io [.o 5 (.alloc (.arr 24 1 fun _ => (.val (.int .u8 0))))])
  (.seq (io [em 16 t0, ec 17 61 [t16], em 6 t17])
  (.seq (io [em 18 t6, .o 19 (.sla 24 1 5 t5 .no t18), em 20 t0, ec 21 62 [t19, t20]])
  (.seq (io [em 22 t6, .o 23 (.sla 24 1 5 t5 .no t22), .o 24 (.b2s t23), em 4 t24])
  .ret)))))
  .skip))
  (.seq (io [em 26 t0, em 27 t1, ec 28 63 [(.c (.slice none 0 0)), t26, t27, cf, cf], em 25 t28, ex 29 0 t25, ex 30 1 t25, em 7 t29, em 8 t30])
  (.seq (io [em 31 t8, em 4 t31])
  .ret))))
theorem hc_internal_strconv_FormatUint : compF Tryd.prog 32 Tryd.f58 = some (ic_internal_strconv_FormatUint, [.t 4]) := by kernel_rfl

theorem fn_r2_divides : Tryd.prog.funcs[r2_divides]? = some Tryd.f59 := Tryd.func59
theorem nt_r2_divides : Tryd.f59.ntmps = 16 := Tryd.ntmps59
def ic_r2_divides : IC := (.seq (io [em 2 cf])
  (.seq (io [em 3 t0, eb 4 .rem t3 (ci 4), eb 5 .eql t4 (ci 0), em 6 t5, .og 7 6 true (.mv t0), .og 8 6 true (.bin .rem t7 (ci 100)), .og 9 6 true (.bin .neq t8 (ci 0)), .og 10 6 true (.mv t9), .og 11 10 false (.mv t0), .og 12 10 false (.bin .rem t11 (ci 400)), .og 13 10 false (.bin .eql t12 (ci 0)), .og 14 6 true (.pick t10 ct t13), .o 15 (.pick t6 t14 cf), em 2 t15])
  .ret))
theorem hc_r2_divides : compF Tryd.prog 16 Tryd.f59 = some (ic_r2_divides, [.t 2]) := by kernel_rfl

theorem fn_internal_strconv_small : Tryd.prog.funcs[internal_strconv_small]? = some Tryd.f60 := Tryd.func60
theorem nt_internal_strconv_small : Tryd.f60.ntmps = 15 := Tryd.ntmps60
def ic_internal_strconv_small : IC := (.seq (io [em 2 (.c (.string ⟨#[]⟩))])
  (.seq (.seq (io [em 3 t0, eb 4 .lss t3 (ci 10)])
  (.cond t4
  (.seq (io [em 5 t0, em 6 t0, eb 7 .add t6 (ci 1), .o 8 (.sls (.c (.string digs)) t5 t7), em 2 t8])
  .ret)
  .skip))
  (.seq (io [em 9 t0, eb 10 .mul t9 (ci 2), em 11 t0, eb 12 .mul t11 (ci 2), eb 13 .add t12 (ci 2), .o 14 (.sls (.c (.string smalls)) t10 t13), em 2 t14])
  .ret)))
theorem hc_internal_strconv_small : compF Tryd.prog 15 Tryd.f60 = some (ic_internal_strconv_small, [.t 2]) := by kernel_rfl

theorem fn_internal_strconv_numDigits : Tryd.prog.funcs[internal_strconv_numDigits]? = some Tryd.f61 := Tryd.func61
theorem nt_internal_strconv_numDigits : Tryd.f61.ntmps = 15 := Tryd.ntmps61
def ic_internal_strconv_numDigits : IC := (.seq (io [em 2 (ci 0)])
  (.seq (io [em 4 t0, ec 5 75 [t4], ec 6 74 [t5], em 3 t6])
  (.seq (io [em 7 t3, em 8 t0, em 9 t3, .o 10 (.ixa 20 1 (.g 2) t9), el 11 false 1 t10, eb 12 .geq t8 t11, ec 13 76 [t12], eb 14 .add t7 t13, em 2 t14])
  .ret)))
theorem hc_internal_strconv_numDigits : compF Tryd.prog 15 Tryd.f61 = some (ic_internal_strconv_numDigits, [.t 2]) := by kernel_rfl

theorem fn_internal_strconv_formatBase10 : Tryd.prog.funcs[internal_strconv_formatBase10]? = some Tryd.f62 := Tryd.func62
theorem nt_internal_strconv_formatBase10 : Tryd.f62.ntmps = 167 := Tryd.ntmps62
def ic_internal_strconv_formatBase10 : IC := (.seq (io [em 17 t0, .o 18 (.len t17), em 4 t18])
  (.seq (.block 0 (.loop (.seq (.seq (io [em 19 t4, eb 20 .geq t19 (ci 8)])
  (.cond t20
  .skip
  (.exit 0)))
  (.block 1 (.seq (io [em 21 t1, eb 22 .rem t21 (.c (.int .u64 100000000)), .o 23 (.conv .u32 t22), em 5 t23])
  (.seq (io [em 24 t1, eb 25 .quo t24 (.c (.int .u64 100000000)), em 1 t25])
  (.seq (io [em 26 t5, eb 27 .quo t26 (.c (.int .u32 10000)), em 28 t5, eb 29 .rem t28 (.c (.int .u32 10000)), em 6 t27, em 7 t29])
  (.seq (io [em 30 t7, eb 31 .quo t30 (.c (.int .u32 100)), eb 32 .mul t31 (.c (.int .u32 2)), em 33 t7, eb 34 .rem t33 (.c (.int .u32 100)), eb 35 .mul t34 (.c (.int .u32 2)), em 8 t32, em 9 t35])
  (.seq (io [em 36 t6, eb 37 .quo t36 (.c (.int .u32 100)), eb 38 .mul t37 (.c (.int .u32 2)), em 39 t6, eb 40 .rem t39 (.c (.int .u32 100)), eb 41 .mul t40 (.c (.int .u32 2)), em 10 t38, em 11 t41])
  (.seq (.dops [em 42 t0, em 43 t4, eb 44 .sub t43 (ci 1), em 45 t0, em 46 t4, eb 47 .sub t46 (ci 2), em 48 t9, eb 49 .add t48 (.c (.int .u32 1)), .o 50 (.ixb (.c (.string smalls)) t49), em 51 t9, .o 52 (.ixb (.c (.string smalls)) t51), es 53 1 t42 t44, .n (.sto 1 t53 t50), es 54 1 t45 t47, .n (.sto 1 t54 t52)])
  (.seq (.dops [em 55 t0, em 56 t4, eb 57 .sub t56 (ci 3), em 58 t0, em 59 t4, eb 60 .sub t59 (ci 4), em 61 t8, eb 62 .add t61 (.c (.int .u32 1)), .o 63 (.ixb (.c (.string smalls)) t62), em 64 t8, .o 65 (.ixb (.c (.string smalls)) t64), es 66 1 t55 t57, .n (.sto 1 t66 t63), es 67 1 t58 t60, .n (.sto 1 t67 t65)])
  (.seq (.dops [em 68 t0, em 69 t4, eb 70 .sub t69 (ci 5), em 71 t0, em 72 t4, eb 73 .sub t72 (ci 6), em 74 t11, eb 75 .add t74 (.c (.int .u32 1)), .o 76 (.ixb (.c (.string smalls)) t75), em 77 t11, .o 78 (.ixb (.c (.string smalls)) t77), es 79 1 t68 t70, .n (.sto 1 t79 t76), es 80 1 t71 t73, .n (.sto 1 t80 t78)])
  (.seq (.dops [em 81 t0, em 82 t4, eb 83 .sub t82 (ci 7), em 84 t0, em 85 t4, eb 86 .sub t85 (ci 8), em 87 t10, eb 88 .add t87 (.c (.int .u32 1)), .o 89 (.ixb (.c (.string smalls)) t88), em 90 t10, .o 91 (.ixb (.c (.string smalls)) t90), es 92 1 t81 t83, .n (.sto 1 t92 t89), es 93 1 t84 t86, .n (.sto 1 t93 t91)])
  (.ops [em 94 t4, eb 95 .sub t94 (ci 8), em 4 t95]))))))))))))))
  (.seq (io [em 96 t1, .o 97 (.conv .u32 t96), em 12 t97])
  (.seq (.seq (io [em 98 t4, eb 99 .geq t98 (ci 4)])
  (.cond t99
  (.seq (io [em 100 t12, eb 101 .rem t100 (.c (.int .u32 10000)), em 13 t101])
  (.seq (io [em 102 t12, eb 103 .quo t102 (.c (.int .u32 10000)), em 12 t103])
  (.seq (io [em 104 t13, eb 105 .quo t104 (.c (.int .u32 100)), eb 106 .mul t105 (.c (.int .u32 2)), em 107 t13, eb 108 .rem t107 (.c (.int .u32 100)), eb 109 .mul t108 (.c (.int .u32 2)), em 14 t106, em 15 t109])
  (.seq (.dops [em 110 t0, em 111 t4, eb 112 .sub t111 (ci 1), em 113 t0, em 114 t4, eb 115 .sub t114 (ci 2), em 116 t15, eb 117 .add t116 (.c (.int .u32 1)), .o 118 (.ixb (.c (.string smalls)) t117), em 119 t15, .o 120 (.ixb (.c (.string smalls)) t119), es 121 1 t110 t112, .n (.sto 1 t121 t118), es 122 1 t113 t115, .n (.sto 1 t122 t120)])
  (.seq (.dops [em 123 t0, em 124 t4, eb 125 .sub t124 (ci 3), em 126 t0, em 127 t4, eb 128 .sub t127 (ci 4), em 129 t14, eb 130 .add t129 (.c (.int .u32 1)), .o 131 (.ixb (.c (.string smalls)) t130), em 132 t14, .o 133 (.ixb (.c (.string smalls)) t132), es 134 1 t123 t125, .n (.sto 1 t134 t131), es 135 1 t126 t128, .n (.sto 1 t135 t133)])
  (.ops [em 136 t4, eb 137 .sub t136 (ci 4), em 4 t137]))))))
  .skip))
  (.seq (.seq (io [em 138 t4, eb 139 .geq t138 (ci 2)])
  (.cond t139
  (.seq (io [em 140 t12, eb 141 .rem t140 (.c (.int .u32 100)), eb 142 .mul t141 (.c (.int .u32 2)), em 16 t142])
  (.seq (io [em 143 t12, eb 144 .quo t143 (.c (.int .u32 100)), em 12 t144])
  (.seq (.dops [em 145 t0, em 146 t4, eb 147 .sub t146 (ci 1), em 148 t0, em 149 t4, eb 150 .sub t149 (ci 2), em 151 t16, eb 152 .add t151 (.c (.int .u32 1)), .o 153 (.ixb (.c (.string smalls)) t152), em 154 t16, .o 155 (.ixb (.c (.string smalls)) t154), es 156 1 t145 t147, .n (.sto 1 t156 t153), es 157 1 t148 t150, .n (.sto 1 t157 t155)])
  (.ops [em 158 t4, eb 159 .sub t158 (ci 2), em 4 t159]))))
  .skip))
  (.seq (io [em 160 t4, eb 161 .gtr t160 (ci 0)])
  (.cond t161
  (.ops [em 162 t0, em 163 t12, eb 164 .add (.c (.int .u32 48)) t163, .o 165 (.conv .u8 t164), es 166 1 t162 (ci 0), .n (.sto 1 t166 t165)])
  .skip)))))))
theorem hc_internal_strconv_formatBase10 : compF Tryd.prog 167 Tryd.f62 = some (ic_internal_strconv_formatBase10, []) := by kernel_rfl

theorem fn_internal_strconv_formatBits : Tryd.prog.funcs[internal_strconv_formatBits]? = some Tryd.f63 := Tryd.func63
theorem nt_internal_strconv_formatBits : Tryd.f63.ntmps = 102 := Tryd.ntmps63
def ic_internal_strconv_formatBits : IC := (.seq (io [em 10 (.c (.slice none 0 0)), em 11 (.c (.string ⟨#[]⟩))])
  (.seq (.seq (io [em 19 t2, eb 20 .lss t19 (ci 2), em 21 t20, .og 22 21 false (.mv t2), .og 23 21 false (.bin .eql t22 (ci 10)), .o 24 (.pick t21 ct t23), em 25 t24, .og 26 25 false (.mv t2), .og 27 25 false (.bin .gtr t26 (ci 36)), .o 28 (.pick t25 ct t27)])
  (.cond t28
  (.ops [.o 29 (.dead), .n (.dead)])
  .skip))
  (.seq (io [.o 12 (.alloc (.arr 65 1 fun _ => (.val (.int .u8 0))))])
  (.seq (io [em 13 (ci 65)])
  (.seq (.seq (io [em 30 t3])
  (.cond t30
  (.ops [em 31 t1, .o 32 (.un .neg t31), em 1 t32])
  .skip))
  (.seq (.seq (io [em 33 t2, ec 34 77 [t33]])
  (.cond t34
  (.seq (io [em 35 t2, .o 36 (.conv .u64 t35), ec 37 78 [t36], .o 38 (.conv .u64 t37), em 14 t38])
  (.seq (io [em 39 t2, .o 40 (.conv .u64 t39), em 15 t40])
  (.seq (io [em 41 t2, .o 42 (.conv .u64 t41), eb 43 .sub t42 (.c (.int .u64 1)), em 16 t43])
  (.seq (.block 0 (.loop (.seq (.seq (io [em 44 t1, em 45 t15, eb 46 .geq t44 t45])
  (.cond t46
  .skip
  (.exit 0)))
  (.block 1 (.seq (io [em 47 t13, eb 48 .sub t47 (ci 1), em 13 t48])
  (.seq (io [em 49 t13, em 50 t1, em 51 t16, eb 52 .and t50 t51, .o 53 (.ixb (.c (.string digs)) t52), .o 54 (.ixa 65 1 t12 t49), .n (.sto 1 t54 t53)])
  (.ops [em 55 t1, em 56 t14, eb 57 .shr t55 t56, em 1 t57])))))))
  (.seq (io [em 58 t13, eb 59 .sub t58 (ci 1), em 13 t59])
  (.ops [em 60 t13, em 61 t1, .o 62 (.ixb (.c (.string digs)) t61), .o 63 (.ixa 65 1 t12 t60), .n (.sto 1 t63 t62)]))))))
  (.seq (io [em 64 t2, .o 65 (.conv .u64 t64), em 17 t65])
  (.seq (.block 2 (.loop (.seq (.seq (io [em 66 t1, em 67 t17, eb 68 .geq t66 t67])
  (.cond t68
  .skip
  (.exit 2)))
  (.block 3 (.seq (io [em 69 t13, eb 70 .sub t69 (ci 1), em 13 t70])
  (.seq (io [em 71 t1, em 72 t17, eb 73 .quo t71 t72, em 18 t73])
  (.seq (io [em 74 t13, em 75 t1, em 76 t18, em 77 t17, eb 78 .mul t76 t77, eb 79 .sub t75 t78, .o 80 (.ixb (.c (.string digs)) t79), .o 81 (.ixa 65 1 t12 t74), .n (.sto 1 t81 t80)])
  (.ops [em 82 t18, em 1 t82]))))))))
  (.seq (io [em 83 t13, eb 84 .sub t83 (ci 1), em 13 t84])
  (.ops [em 85 t13, em 86 t1, .o 87 (.ixb (.c (.string digs)) t86), .o 88 (.ixa 65 1 t12 t85), .n (.sto 1 t88 t87)]))))))
  (.seq (.seq (io [em 89 t3])
  (.cond t89
  (.seq (io [em 90 t13, eb 91 .sub t90 (ci 1), em 13 t91])
  (.ops [em 92 t13, .o 93 (.ixa 65 1 t12 t92), .n (.sto 1 t93 (.c (.int .u8 45)))]))
  .skip))
  (.seq (.seq (io [em 94 t4])
  (.cond t94
  (.seq (io [em 95 t0, em 96 t13, .o 97 (.sla 65 1 5 t12 t96 .no), .o 98 (.app 1 1 5 t95 t97), em 10 t98])
  .ret)
  .skip))
  (.seq (io [em 99 t13, .o 100 (.sla 65 1 5 t12 t99 .no), .o 101 (.b2s t100), em 11 t101])
  .ret)))))))))
theorem hc_internal_strconv_formatBits : compF Tryd.prog 102 Tryd.f63 = some (ic_internal_strconv_formatBits, [.t 10, .t 11]) := by kernel_rfl

theorem fn_internal_stringslite_IndexByte : Tryd.prog.funcs[internal_stringslite_IndexByte]? = some Tryd.f64 := Tryd.func64
theorem nt_internal_stringslite_IndexByte : Tryd.f64.ntmps = 8 := Tryd.ntmps64
def ic_internal_stringslite_IndexByte : IC := (.seq (io [em 4 (ci 0)])
  (.seq (io [em 5 t0, em 6 t1, .o 7 (.xcall 79 [t5, t6]), em 4 t7])
  .ret))
theorem hc_internal_stringslite_IndexByte : compF Tryd.prog 8 Tryd.f64 = some (ic_internal_stringslite_IndexByte, [.t 4]) := by kernel_rfl

theorem fn_internal_bytealg_Cutover : Tryd.prog.funcs[internal_bytealg_Cutover]? = some Tryd.f66 := Tryd.func66
theorem nt_internal_bytealg_Cutover : Tryd.f66.ntmps = 6 := Tryd.ntmps66
def ic_internal_bytealg_Cutover : IC := (.seq (io [em 2 (ci 0)])
  (.seq (io [em 3 t0, eb 4 .add t3 (ci 16), eb 5 .quo t4 (ci 8), em 2 t5])
  .ret))
theorem hc_internal_bytealg_Cutover : compF Tryd.prog 6 Tryd.f66 = some (ic_internal_bytealg_Cutover, [.t 2]) := by kernel_rfl

theorem fn_internal_bytealg_IndexRabinKarp_string_ : Tryd.prog.funcs[internal_bytealg_IndexRabinKarp_string_]? = some Tryd.f67 := Tryd.func67
theorem nt_internal_bytealg_IndexRabinKarp_string_ : Tryd.f67.ntmps = 81 := Tryd.ntmps67
def ic_internal_bytealg_IndexRabinKarp_string_ : IC := (.seq (io [em 4 (ci 0)])
  (.seq (io [em 12 t1, ec 13 80 [t12], em 11 t13, ex 14 0 t11, ex 15 1 t11, em 5 t14, em 6 t15])
  (.seq (io [em 16 t1, .o 17 (.lens t16), em 7 t17])
  (.seq (io [em 8 (.c (.int .u32 0))])
  (.seq (.seq (io [em 9 (ci 0)])
  (.block 0 (.loop (.seq (.seq (io [em 18 t9, em 19 t7, eb 20 .lss t18 t19])
  (.cond t20
  .skip
  (.exit 0)))
  (.seq (.block 1 (.ops [em 23 t8, eb 24 .mul t23 (.c (.int .u32 16777619)), em 25 t0, em 26 t9, .o 27 (.ixb t25 t26), .o 28 (.conv .u32 t27), eb 29 .add t24 t28, em 8 t29]))
  (.ops [em 21 t9, eb 22 .add t21 (ci 1), em 9 t22]))))))
  (.seq (.seq (io [em 30 t8, em 31 t5, eb 32 .eql t30 t31, em 33 t32, .og 34 33 true (.mv t0), .og 35 33 true (.mv t7), .og 36 33 true (.sls t34 .no t35), .og 37 33 true (.mv t1), .og 38 33 true (.sop .eql t36 t37), .o 39 (.pick t33 t38 cf)])
  (.cond t39
  (.seq (io [em 4 (ci 0)])
  .ret)
  .skip))
  (.seq (.seq (io [em 40 t7, em 10 t40])
  (.block 2 (.loop (.seq (.seq (io [em 41 t10, em 42 t0, .o 43 (.lens t42), eb 44 .lss t41 t43])
  (.cond t44
  .skip
  (.exit 2)))
  (.block 3 (.seq (io [em 45 t8, eb 46 .mul t45 (.c (.int .u32 16777619)), em 8 t46])
  (.seq (io [em 47 t8, em 48 t0, em 49 t10, .o 50 (.ixb t48 t49), .o 51 (.conv .u32 t50), eb 52 .add t47 t51, em 8 t52])
  (.seq (io [em 53 t8, em 54 t6, em 55 t0, em 56 t10, em 57 t7, eb 58 .sub t56 t57, .o 59 (.ixb t55 t58), .o 60 (.conv .u32 t59), eb 61 .mul t54 t60, eb 62 .sub t53 t61, em 8 t62])
  (.seq (io [em 63 t10, eb 64 .add t63 (ci 1), em 10 t64])
  (.seq (io [em 65 t8, em 66 t5, eb 67 .eql t65 t66, em 68 t67, .og 69 68 true (.mv t0), .og 70 68 true (.mv t10), .og 71 68 true (.mv t7), .og 72 68 true (.bin .sub t70 t71), .og 73 68 true (.mv t10), .og 74 68 true (.sls t69 t72 t73), .og 75 68 true (.mv t1), .og 76 68 true (.sop .eql t74 t75), .o 77 (.pick t68 t76 cf)])
  (.cond t77
  (.seq (io [em 78 t10, em 79 t7, eb 80 .sub t78 t79, em 4 t80])
  .ret)
  .skip)))))))))))
  (.seq (io [em 4 (ci (-1))])
  .ret))))))))
theorem hc_internal_bytealg_IndexRabinKarp_string_ : compF Tryd.prog 81 Tryd.f67 = some (ic_internal_bytealg_IndexRabinKarp_string_, [.t 4]) := by kernel_rfl

theorem fn_internal_strconv_ParseInt : Tryd.prog.funcs[internal_strconv_ParseInt]? = some Tryd.f68 := Tryd.func68
theorem nt_internal_strconv_ParseInt : Tryd.f68.ntmps = 73 := Tryd.ntmps68
def ic_internal_strconv_ParseInt : IC := (.seq (io [em 6 (ci 0), em 7 (.c (.nilIface))])
  (.seq (.seq (io [em 12 t0, .o 13 (.sop .eql t12 (.c (.string ⟨#[]⟩)))])
  (.cond t13
  (.seq (io [.o 14 (.dead), em 6 (ci 0), em 7 t14])
  .ret)
  .skip))
  (.seq (io [em 8 cf])
  (.seq (.seq (io [em 15 t0, .o 16 (.ixb t15 (ci 0))])
  (.block 0 (.seq (io [eb 18 .eql t16 (.c (.int .u8 43)), em 17 t18])
  (.cond t17
  (.ops [em 19 t0, .o 20 (.sls t19 (ci 1) .no), em 0 t20])
  (.seq (io [eb 22 .eql t16 (.c (.int .u8 45)), em 21 t22])
  (.cond t21
  (.seq (io [em 23 t0, .o 24 (.sls t23 (ci 1) .no), em 0 t24])
  (.ops [em 8 ct]))
  .skip))))))
  (.seq (io [em 9 (.c (.int .u64 0))])
  (.seq (io [em 26 t0, em 27 t1, em 28 t2, ec 29 81 [t26, t27, t28], em 25 t29, ex 30 0 t25, ex 31 1 t25, em 9 t30, em 7 t31])
  (.seq (.seq (io [em 32 t7, .o 33 (.eqn true t32), em 34 t33, .og 35 34 true (.mv t7), .og 36 34 true (.dead), .og 37 34 true (.dead), .o 38 (.pick t34 t37 cf)])
  (.cond t38
  (.seq (io [em 39 t7, em 6 (ci 0), em 7 t39])
  .ret)
  .skip))
  (.seq (.seq (io [em 40 t2, eb 41 .eql t40 (ci 0)])
  (.cond t41
  (.ops [em 2 (ci 64)])
  .skip))
  (.seq (io [em 42 t2, eb 43 .sub t42 (ci 1), .o 44 (.conv .u64 t43), eb 45 .shl (.c (.int .u64 1)) t44, em 10 t45])
  (.seq (.seq (io [em 46 t8, .o 47 (.un .not t46), em 48 t47, .og 49 48 true (.mv t9), .og 50 48 true (.mv t10), .og 51 48 true (.bin .geq t49 t50), .o 52 (.pick t48 t51 cf)])
  (.cond t52
  (.seq (io [em 53 t10, eb 54 .sub t53 (.c (.int .u64 1)), .o 55 (.conv .i64 t54), .o 56 (.dead), em 6 t55, em 7 t56])
  .ret)
  .skip))
  (.seq (.seq (io [em 57 t8, em 58 t57, .og 59 58 true (.mv t9), .og 60 58 true (.mv t10), .og 61 58 true (.bin .gtr t59 t60), .o 62 (.pick t58 t61 cf)])
  (.cond t62
  (.seq (io [em 63 t10, .o 64 (.conv .i64 t63), .o 65 (.un .neg t64), .o 66 (.dead), em 6 t65, em 7 t66])
  .ret)
  .skip))
  (.seq (io [em 67 t9, .o 68 (.conv .i64 t67), em 11 t68])
  (.seq (.seq (io [em 69 t8])
  (.cond t69
  (.ops [em 70 t11, .o 71 (.un .neg t70), em 11 t71])
  .skip))
  (.seq (io [em 72 t11, em 6 t72, em 7 (.c (.nilIface))])
  .ret))))))))))))))
theorem hc_internal_strconv_ParseInt : compF Tryd.prog 73 Tryd.f68 = some (ic_internal_strconv_ParseInt, [.t 6, .t 7]) := by kernel_rfl

theorem fn_strconv_syntaxError : Tryd.prog.funcs[strconv_syntaxError]? = some Tryd.f69 := Tryd.func69
theorem nt_strconv_syntaxError : Tryd.f69.ntmps = 11 := Tryd.ntmps69
def ic_strconv_syntaxError : IC := (.seq (io [em 4 (.c (.pointer none))])
  (.seq (.dops [em 5 t0, em 6 t1, ec 7 82 [t6], el 8 false 1 (.g 3), .o 9 (.build (.st (.cons (.val (.string ⟨#[]⟩)) (.cons (.val (.string ⟨#[]⟩)) (.cons (.val (.nilIface)) .nil)))) [(0, 0, 1, t5), (1, 1, 1, t7), (2, 2, 1, t8)]), .o 10 (.box t9), em 4 t10])
  .ret))
theorem hc_strconv_syntaxError : compF Tryd.prog 11 Tryd.f69 = some (ic_strconv_syntaxError, [.t 4]) := by kernel_rfl

theorem fn_strconv_rangeError : Tryd.prog.funcs[strconv_rangeError]? = some Tryd.f70 := Tryd.func70
theorem nt_strconv_rangeError : Tryd.f70.ntmps = 11 := Tryd.ntmps70
def ic_strconv_rangeError : IC := (.seq (io [em 4 (.c (.pointer none))])
  (.seq (.dops [em 5 t0, em 6 t1, ec 7 82 [t6], el 8 false 1 (.g 4), .o 9 (.build (.st (.cons (.val (.string ⟨#[]⟩)) (.cons (.val (.string ⟨#[]⟩)) (.cons (.val (.nilIface)) .nil)))) [(0, 0, 1, t5), (1, 1, 1, t7), (2, 2, 1, t8)]), .o 10 (.box t9), em 4 t10])
  .ret))
theorem hc_strconv_rangeError : compF Tryd.prog 11 Tryd.f70 = some (ic_strconv_rangeError, [.t 4]) := by kernel_rfl

theorem fn_strconv_baseError : Tryd.prog.funcs[strconv_baseError]? = some Tryd.f71 := Tryd.func71
theorem nt_strconv_baseError : Tryd.f71.ntmps = 16 := Tryd.ntmps71
def ic_strconv_baseError : IC := (.seq (io [em 6 (.c (.pointer none))])
  (.seq (io [em 7 t0, em 8 t1, ec 9 82 [t8], em 10 t2, ec 11 11 [t10], .o 12 (.sop .add (.c (.string ⟨#[105, 110, 118, 97, 108, 105, 100, 32, 98, 97, 115, 101, 32]⟩)) t11), ec 13 83 [t12], .o 14 (.build (.st (.cons (.val (.string ⟨#[]⟩)) (.cons (.val (.string ⟨#[]⟩)) (.cons (.val (.nilIface)) .nil)))) [(0, 0, 1, t7), (1, 1, 1, t9), (2, 2, 1, t13)]), .o 15 (.box t14), em 6 t15])
  .ret))
theorem hc_strconv_baseError : compF Tryd.prog 16 Tryd.f71 = some (ic_strconv_baseError, [.t 6]) := by kernel_rfl

theorem fn_strconv_bitSizeError : Tryd.prog.funcs[strconv_bitSizeError]? = some Tryd.f72 := Tryd.func72
theorem nt_strconv_bitSizeError : Tryd.f72.ntmps = 16 := Tryd.ntmps72
def ic_strconv_bitSizeError : IC := (.seq (io [em 6 (.c (.pointer none))])
  (.seq (io [em 7 t0, em 8 t1, ec 9 82 [t8], em 10 t2, ec 11 11 [t10], .o 12 (.sop .add (.c (.string ⟨#[105, 110, 118, 97, 108, 105, 100, 32, 98, 105, 116, 32, 115, 105, 122, 101, 32]⟩)) t11), ec 13 83 [t12], .o 14 (.build (.st (.cons (.val (.string ⟨#[]⟩)) (.cons (.val (.string ⟨#[]⟩)) (.cons (.val (.nilIface)) .nil)))) [(0, 0, 1, t7), (1, 1, 1, t9), (2, 2, 1, t13)]), .o 15 (.box t14), em 6 t15])
  .ret))
theorem hc_strconv_bitSizeError : compF Tryd.prog 16 Tryd.f72 = some (ic_strconv_bitSizeError, [.t 6]) := by kernel_rfl

theorem fn_internal_stringslite_HasSuffix : Tryd.prog.funcs[internal_stringslite_HasSuffix]? = some Tryd.f73 := Tryd.func73
theorem nt_internal_stringslite_HasSuffix : Tryd.f73.ntmps = 21 := Tryd.ntmps73
def ic_internal_stringslite_HasSuffix : IC := (.seq (io [em 4 cf])
  (.seq (io [em 5 t0, .o 6 (.lens t5), em 7 t1, .o 8 (.lens t7), eb 9 .geq t6 t8, em 10 t9, .og 11 10 true (.mv t0), .og 12 10 true (.mv t0), .og 13 10 true (.lens t12), .og 14 10 true (.mv t1), .og 15 10 true (.lens t14), .og 16 10 true (.bin .sub t13 t15), .og 17 10 true (.sls t11 t16 .no), .og 18 10 true (.mv t1), .og 19 10 true (.sop .eql t17 t18), .o 20 (.pick t10 t19 cf), em 4 t20])
  .ret))
theorem hc_internal_stringslite_HasSuffix : compF Tryd.prog 21 Tryd.f73 = some (ic_internal_stringslite_HasSuffix, [.t 4]) := by kernel_rfl

theorem fn_internal_strconv_log10Pow2 : Tryd.prog.funcs[internal_strconv_log10Pow2]? = some Tryd.f74 := Tryd.func74
theorem nt_internal_strconv_log10Pow2 : Tryd.f74.ntmps = 6 := Tryd.ntmps74
def ic_internal_strconv_log10Pow2 : IC := (.seq (io [em 2 (ci 0)])
  (.seq (io [em 3 t0, eb 4 .mul t3 (ci 78913), eb 5 .shr t4 (.c (.int .u64 18)), em 2 t5])
  .ret))
theorem hc_internal_strconv_log10Pow2 : compF Tryd.prog 6 Tryd.f74 = some (ic_internal_strconv_log10Pow2, [.t 2]) := by kernel_rfl

theorem fn_math_bits_Len64 : Tryd.prog.funcs[math_bits_Len64]? = some Tryd.f75 := Tryd.func75
theorem nt_math_bits_Len64 : Tryd.f75.ntmps = 25 := Tryd.ntmps75
def ic_math_bits_Len64 : IC := (.seq (io [em 2 (ci 0)])
  (.seq (.seq (io [em 3 t0, eb 4 .geq t3 (.c (.int .u64 4294967296))])
  (.cond t4
  (.seq (io [em 5 t0, eb 6 .shr t5 (.c (.int .u64 32)), em 0 t6])
  (.ops [em 2 (ci 32)]))
  .skip))
  (.seq (.seq (io [em 7 t0, eb 8 .geq t7 (.c (.int .u64 65536))])
  (.cond t8
  (.seq (io [em 9 t0, eb 10 .shr t9 (.c (.int .u64 16)), em 0 t10])
  (.ops [em 11 t2, eb 12 .add t11 (ci 16), em 2 t12]))
  .skip))
  (.seq (.seq (io [em 13 t0, eb 14 .geq t13 (.c (.int .u64 256))])
  (.cond t14
  (.seq (io [em 15 t0, eb 16 .shr t15 (.c (.int .u64 8)), em 0 t16])
  (.ops [em 17 t2, eb 18 .add t17 (ci 8), em 2 t18]))
  .skip))
  (.seq (io [em 19 t2, em 20 t0, .o 21 (.conv .u8 t20), .o 22 (.ixb (.c (.string ⟨#[0, 1, 2, 2, 3, 3, 3, 3, 4, 4, 4, 4, 4, 4, 4, 4, 5, 5, 5, 5, 5, 5, 5, 5, 5, 5, 5, 5, 5, 5, 5, 5, 6, 6, 6, 6, 6, 6, 6, 6, 6, 6, 6, 6, 6, 6, 6, 6, 6, 6, 6, 6, 6, 6, 6, 6, 6, 6, 6, 6, 6, 6, 6, 6, 7, 7, 7, 7, 7, 7, 7, 7, 7, 7, 7, 7, 7, 7, 7, 7, 7, 7, 7, 7, 7, 7, 7, 7, 7, 7, 7, 7, 7, 7, 7, 7, 7, 7, 7, 7, 7, 7, 7, 7, 7, 7, 7, 7, 7, 7, 7, 7, 7, 7, 7, 7, 7, 7, 7, 7, 7, 7, 7, 7, 7, 7, 7, 7, 8, 8, 8, 8, 8, 8, 8, 8, 8, 8, 8, 8, 8, 8, 8, 8, 8, 8, 8, 8, 8, 8, 8, 8, 8, 8, 8, 8, 8, 8, 8, 8, 8, 8, 8, 8, 8, 8, 8, 8, 8, 8, 8, 8, 8, 8, 8, 8, 8, 8, 8, 8, 8, 8, 8, 8, 8, 8, 8, 8, 8, 8, 8, 8, 8, 8, 8, 8, 8, 8, 8, 8, 8, 8, 8, 8, 8, 8, 8, 8, 8, 8, 8, 8, 8, 8, 8, 8, 8, 8, 8, 8, 8, 8, 8, 8, 8, 8, 8, 8, 8, 8, 8, 8, 8, 8, 8, 8, 8, 8, 8, 8, 8, 8, 8, 8, 8, 8, 8, 8, 8, 8, 8, 8, 8, 8, 8, 8]⟩)) t21), .o 23 (.conv .i64 t22), eb 24 .add t19 t23, em 2 t24])
  .ret)))))
theorem hc_math_bits_Len64 : compF Tryd.prog 25 Tryd.f75 = some (ic_math_bits_Len64, [.t 2]) := by kernel_rfl

theorem fn_internal_strconv_bool2_int_ : Tryd.prog.funcs[internal_strconv_bool2_int_]? = some Tryd.f76 := Tryd.func76
theorem nt_internal_strconv_bool2_int_ : Tryd.f76.ntmps = 4 := Tryd.ntmps76
def ic_internal_strconv_bool2_int_ : IC := (.seq (io [em 2 (ci 0)])
  (.seq (.seq (io [em 3 t0])
  (.cond t3
  (.seq (io [em 2 (ci 1)])
  .ret)
  .skip))
  (.seq (io [em 2 (ci 0)])
  .ret)))
theorem hc_internal_strconv_bool2_int_ : compF Tryd.prog 4 Tryd.f76 = some (ic_internal_strconv_bool2_int_, [.t 2]) := by kernel_rfl

theorem fn_internal_strconv_isPowerOfTwo : Tryd.prog.funcs[internal_strconv_isPowerOfTwo]? = some Tryd.f77 := Tryd.func77
theorem nt_internal_strconv_isPowerOfTwo : Tryd.f77.ntmps = 8 := Tryd.ntmps77
def ic_internal_strconv_isPowerOfTwo : IC := (.seq (io [em 2 cf])
  (.seq (io [em 3 t0, em 4 t0, eb 5 .sub t4 (ci 1), eb 6 .and t3 t5, eb 7 .eql t6 (ci 0), em 2 t7])
  .ret))
theorem hc_internal_strconv_isPowerOfTwo : compF Tryd.prog 8 Tryd.f77 = some (ic_internal_strconv_isPowerOfTwo, [.t 2]) := by kernel_rfl

theorem fn_math_bits_TrailingZeros : Tryd.prog.funcs[math_bits_TrailingZeros]? = some Tryd.f78 := Tryd.func78
theorem nt_math_bits_TrailingZeros : Tryd.f78.ntmps = 8 := Tryd.ntmps78
def ic_math_bits_TrailingZeros : IC := (.seq (io [em 2 (ci 0)])
  (.seq (.cond cf
  (.seq (io [em 3 t0, .o 4 (.conv .u32 t3), ec 5 84 [t4], em 2 t5])
  .ret)
  .skip)
  (.seq (io [em 6 t0, ec 7 85 [t6], em 2 t7])
  .ret)))
theorem hc_math_bits_TrailingZeros : compF Tryd.prog 8 Tryd.f78 = some (ic_math_bits_TrailingZeros, [.t 2]) := by kernel_rfl

theorem fn_internal_bytealg_hashStr_string_ : Tryd.prog.funcs[internal_bytealg_hashStr_string_]? = some Tryd.f80 := Tryd.func80
theorem nt_internal_bytealg_hashStr_string_ : Tryd.f80.ntmps = 39 := Tryd.ntmps80
def ic_internal_bytealg_hashStr_string_ : IC := (.seq (io [em 2 (.c (.int .u32 0)), em 3 (.c (.int .u32 0))])
  (.seq (io [em 4 (.c (.int .u32 0))])
  (.seq (.seq (io [em 5 (ci 0)])
  (.block 0 (.loop (.seq (.seq (io [em 9 t5, em 10 t0, .o 11 (.lens t10), eb 12 .lss t9 t11])
  (.cond t12
  .skip
  (.exit 0)))
  (.seq (.block 1 (.ops [em 15 t4, eb 16 .mul t15 (.c (.int .u32 16777619)), em 17 t0, em 18 t5, .o 19 (.ixb t17 t18), .o 20 (.conv .u32 t19), eb 21 .add t16 t20, em 4 t21]))
  (.ops [em 13 t5, eb 14 .add t13 (ci 1), em 5 t14]))))))
  (.seq (io [em 6 (.c (.int .u32 1)), em 7 (.c (.int .u32 16777619))])
  (.seq (.seq (io [em 22 t0, .o 23 (.lens t22), em 8 t23])
  (.block 2 (.loop (.seq (.seq (io [em 24 t8, eb 25 .gtr t24 (ci 0)])
  (.cond t25
  .skip
  (.exit 2)))
  (.seq (.block 3 (.seq (.seq (io [em 28 t8, eb 29 .and t28 (ci 1), eb 30 .neq t29 (ci 0)])
  (.cond t30
  (.ops [em 31 t6, em 32 t7, eb 33 .mul t31 t32, em 6 t33])
  .skip))
  (.ops [em 34 t7, em 35 t7, eb 36 .mul t34 t35, em 7 t36])))
  (.ops [em 26 t8, eb 27 .shr t26 (.c (.int .u64 1)), em 8 t27]))))))
  (.seq (io [em 37 t4, em 38 t6, em 2 t37, em 3 t38])
  .ret))))))
theorem hc_internal_bytealg_hashStr_string_ : compF Tryd.prog 39 Tryd.f80 = some (ic_internal_bytealg_hashStr_string_, [.t 2, .t 3]) := by kernel_rfl

theorem fn_internal_strconv_ParseUint : Tryd.prog.funcs[internal_strconv_ParseUint]? = some Tryd.f81 := Tryd.func81
theorem nt_internal_strconv_ParseUint : Tryd.f81.ntmps = 172 := Tryd.ntmps81
def ic_internal_strconv_ParseUint : IC := (.seq (io [em 6 (.c (.int .u64 0)), em 7 (.c (.nilIface))])
  (.seq (.seq (io [em 18 t0, .o 19 (.sop .eql t18 (.c (.string ⟨#[]⟩)))])
  (.cond t19
  (.seq (io [.o 20 (.dead), em 6 (.c (.int .u64 0)), em 7 t20])
  .ret)
  .skip))
  (.seq (io [em 21 t1, eb 22 .eql t21 (ci 0), em 8 t22])
  (.seq (io [em 23 t0, em 9 t23])
  (.seq (.block 0 (.seq (io [em 26 t1, eb 27 .leq (ci 2) t26, em 28 t27, .og 29 28 true (.mv t1), .og 30 28 true (.bin .leq t29 (ci 36)), .o 31 (.pick t28 t30 cf), em 25 t31])
  (.cond t25
  .skip
  (.seq (io [em 33 t1, eb 34 .eql t33 (ci 0), em 32 t34])
  (.cond t32
  (.seq (io [em 1 (ci 10)])
  (.seq (io [em 35 t0, .o 36 (.ixb t35 (ci 0)), eb 37 .eql t36 (.c (.int .u8 48))])
  (.cond t37
  (.block 1 (.seq (io [em 41 t0, .o 42 (.lens t41), eb 43 .geq t42 (ci 3), em 44 t43, .og 45 44 true (.mv t0), .og 46 44 true (.ixb t45 (ci 1)), .og 47 44 true (.call 86 [t46]), .og 48 44 true (.bin .eql t47 (.c (.int .u8 98))), .o 49 (.pick t44 t48 cf), em 40 t49])
  (.cond t40
  (.seq (io [em 1 (ci 2)])
  (.ops [em 50 t0, .o 51 (.sls t50 (ci 2) .no), em 0 t51]))
  (.seq (io [em 53 t0, .o 54 (.lens t53), eb 55 .geq t54 (ci 3), em 56 t55, .og 57 56 true (.mv t0), .og 58 56 true (.ixb t57 (ci 1)), .og 59 56 true (.call 86 [t58]), .og 60 56 true (.bin .eql t59 (.c (.int .u8 111))), .o 61 (.pick t56 t60 cf), em 52 t61])
  (.cond t52
  (.seq (io [em 1 (ci 8)])
  (.ops [em 62 t0, .o 63 (.sls t62 (ci 2) .no), em 0 t63]))
  (.seq (io [em 65 t0, .o 66 (.lens t65), eb 67 .geq t66 (ci 3), em 68 t67, .og 69 68 true (.mv t0), .og 70 68 true (.ixb t69 (ci 1)), .og 71 68 true (.call 86 [t70]), .og 72 68 true (.bin .eql t71 (.c (.int .u8 120))), .o 73 (.pick t68 t72 cf), em 64 t73])
  (.cond t64
  (.seq (io [em 1 (ci 16)])
  (.ops [em 74 t0, .o 75 (.sls t74 (ci 2) .no), em 0 t75]))
  (.seq (io [em 1 (ci 8)])
  (.ops [em 38 t0, .o 39 (.sls t38 (ci 1) .no), em 0 t39])))))))))
  .skip)))
  (.seq (io [.o 24 (.dead), em 6 (.c (.int .u64 0)), em 7 t24])
  .ret))))))
  (.seq (.seq (io [em 76 t2, eb 77 .eql t76 (ci 0)])
  (.cond t77
  (.ops [em 2 (ci 64)])
  (.seq (io [em 78 t2, eb 79 .lss t78 (ci 0), em 80 t79, .og 81 80 false (.mv t2), .og 82 80 false (.bin .gtr t81 (ci 64)), .o 83 (.pick t80 ct t82)])
  (.cond t83
  (.seq (io [.o 84 (.dead), em 6 (.c (.int .u64 0)), em 7 t84])
  .ret)
  .skip))))
  (.seq (io [em 10 (.c (.int .u64 0))])
  (.seq (.seq (io [em 85 t1])
  (.block 2 (.seq (io [eb 91 .eql t85 (ci 10), em 90 t91])
  (.cond t90
  (.ops [em 10 (.c (.int .u64 1844674407370955162))])
  (.seq (io [eb 93 .eql t85 (ci 16), em 92 t93])
  (.cond t92
  (.ops [em 10 (.c (.int .u64 1152921504606846976))])
  (.ops [em 86 t1, .o 87 (.conv .u64 t86), eb 88 .quo (.c (.int .u64 18446744073709551615)) t87, eb 89 .add t88 (.c (.int .u64 1)), em 10 t89])))))))
  (.seq (io [em 94 t2, .o 95 (.conv .u64 t94), eb 96 .shl (.c (.int .u64 1)) t95, eb 97 .sub t96 (.c (.int .u64 1)), em 11 t97])
  (.seq (io [em 12 cf])
  (.seq (io [em 13 (.c (.int .u64 0))])
  (.seq (.seq (io [em 98 t0, .o 99 (.s2b 5 t98), .o 100 (.len t99), em 101 (ci 0)])
  (.block 3 (.loop (.seq (io [eb 102 .lss t101 t100])
  (.seq (.cond t102
  .skip
  (.exit 3))
  (.seq (.block 4 (.seq (io [es 103 1 t99 t101, el 104 false 1 t103, em 15 t104])
  (.seq (io [em 16 (.c (.int .u8 0))])
  (.seq (.block 5 (.seq (io [em 107 t15, eb 108 .eql t107 (.c (.int .u8 95)), em 109 t108, .og 110 109 true (.mv t8), .o 111 (.pick t109 t110 cf), em 106 t111])
  (.cond t106
  (.seq (io [em 12 ct])
  (.exit 4))
  (.seq (io [em 113 t15, eb 114 .leq (.c (.int .u8 48)) t113, em 115 t114, .og 116 115 true (.mv t15), .og 117 115 true (.bin .leq t116 (.c (.int .u8 57))), .o 118 (.pick t115 t117 cf), em 112 t118])
  (.cond t112
  (.ops [em 119 t15, eb 120 .sub t119 (.c (.int .u8 48)), em 16 t120])
  (.seq (io [em 122 t15, ec 123 86 [t122], eb 124 .leq (.c (.int .u8 97)) t123, em 125 t124, .og 126 125 true (.mv t15), .og 127 125 true (.call 86 [t126]), .og 128 125 true (.bin .leq t127 (.c (.int .u8 122))), .o 129 (.pick t125 t128 cf), em 121 t129])
  (.cond t121
  (.ops [em 130 t15, ec 131 86 [t130], eb 132 .sub t131 (.c (.int .u8 97)), eb 133 .add t132 (.c (.int .u8 10)), em 16 t133])
  (.seq (io [.o 105 (.dead), em 6 (.c (.int .u64 0)), em 7 t105])
  .ret))))))))
  (.seq (.seq (io [em 134 t16, em 135 t1, .o 136 (.conv .u8 t135), eb 137 .geq t134 t136])
  (.cond t137
  (.seq (io [.o 138 (.dead), em 6 (.c (.int .u64 0)), em 7 t138])
  .ret)
  .skip))
  (.seq (.seq (io [em 139 t13, em 140 t10, eb 141 .geq t139 t140])
  (.cond t141
  (.seq (io [em 142 t11, .o 143 (.dead), em 6 t142, em 7 t143])
  .ret)
  .skip))
  (.seq (io [em 144 t13, em 145 t1, .o 146 (.conv .u64 t145), eb 147 .mul t144 t146, em 13 t147])
  (.seq (io [em 148 t13, em 149 t16, .o 150 (.conv .u64 t149), eb 151 .add t148 t150, em 17 t151])
  (.seq (.seq (io [em 152 t17, em 153 t13, eb 154 .lss t152 t153, em 155 t154, .og 156 155 false (.mv t17), .og 157 155 false (.mv t11), .og 158 155 false (.bin .gtr t156 t157), .o 159 (.pick t155 ct t158)])
  (.cond t159
  (.seq (io [em 160 t11, .o 161 (.dead), em 6 t160, em 7 t161])
  .ret)
  .skip))
  (.ops [em 162 t17, em 13 t162]))))))))))
  (.ops [eb 163 .add t101 (ci 1), em 101 t163])))))))
  (.seq (.seq (io [em 164 t12, em 165 t164, .og 166 165 true (.mv t9), .og 167 165 true (.call 87 [t166]), .og 168 165 true (.un .not t167), .o 169 (.pick t165 t168 cf)])
  (.cond t169
  (.seq (io [.o 170 (.dead), em 6 (.c (.int .u64 0)), em 7 t170])
  .ret)
  .skip))
  (.seq (io [em 171 t13, em 6 t171, em 7 (.c (.nilIface))])
  .ret))))))))))))))
theorem hc_internal_strconv_ParseUint : compF Tryd.prog 172 Tryd.f81 = some (ic_internal_strconv_ParseUint, [.t 6, .t 7]) := by kernel_rfl

theorem fn_internal_stringslite_Clone : Tryd.prog.funcs[internal_stringslite_Clone]? = some Tryd.f82 := Tryd.func82
theorem nt_internal_stringslite_Clone : Tryd.f82.ntmps = 18 := Tryd.ntmps82
def ic_internal_stringslite_Clone : IC := (.seq (io [em 2 (.c (.string ⟨#[]⟩))])
  (.seq (.seq (io [em 4 t0, .o 5 (.lens t4), eb 6 .eql t5 (ci 0)])
  (.cond t6
  (.seq (io [em 2 (.c (.string ⟨#[]⟩))])
  .ret)
  .skip))
  (.seq (io [em 7 t0, .o 8 (.lens t7), .o 9 (.mks 1 1 5 (.val (.int .u8 0)) t8 t8), em 3 t9])
  (.seq (io [em 10 t3, em 11 t0, .o 12 (.dead)])
  (.seq (io [em 13 t3, es 14 1 t13 (ci 0), em 15 t3, .o 16 (.len t15), .o 17 (.dead), em 2 t17])
  .ret)))))
theorem hc_internal_stringslite_Clone : compF Tryd.prog 18 Tryd.f82 = some (ic_internal_stringslite_Clone, [.t 2]) := by kernel_rfl

theorem fn_errors_New : Tryd.prog.funcs[errors_New]? = some Tryd.f83 := Tryd.func83
theorem nt_errors_New : Tryd.f83.ntmps = 7 := Tryd.ntmps83
def ic_errors_New : IC := (.seq (io [em 2 (.c (.nilIface))])
  (.seq (io [em 3 t0, .o 4 (.build (.st (.cons (.val (.string ⟨#[]⟩)) .nil)) [(0, 0, 1, t3)]), .o 5 (.box t4), .o 6 (.dead), em 2 t6])
  .ret))
theorem hc_errors_New : compF Tryd.prog 7 Tryd.f83 = some (ic_errors_New, [.t 2]) := by kernel_rfl

theorem fn_math_bits_TrailingZeros32 : Tryd.prog.funcs[math_bits_TrailingZeros32]? = some Tryd.f84 := Tryd.func84
theorem nt_math_bits_TrailingZeros32 : Tryd.f84.ntmps = 14 := Tryd.ntmps84
def ic_math_bits_TrailingZeros32 : IC := (.seq (io [em 2 (ci 0)])
  (.seq (.seq (io [em 3 t0, eb 4 .eql t3 (.c (.int .u32 0))])
  (.cond t4
  (.seq (io [em 2 (ci 32)])
  .ret)
  .skip))
  (.seq (io [em 5 t0, em 6 t0, .o 7 (.un .neg t6), eb 8 .and t5 t7, eb 9 .mul t8 (.c (.int .u32 125613361)), eb 10 .shr t9 (.c (.int .u64 27)), .o 11 (.ixa 32 1 (.g 5) t10), el 12 false 1 t11, .o 13 (.conv .i64 t12), em 2 t13])
  .ret)))
theorem hc_math_bits_TrailingZeros32 : compF Tryd.prog 14 Tryd.f84 = some (ic_math_bits_TrailingZeros32, [.t 2]) := by kernel_rfl

theorem fn_math_bits_TrailingZeros64 : Tryd.prog.funcs[math_bits_TrailingZeros64]? = some Tryd.f85 := Tryd.func85
theorem nt_math_bits_TrailingZeros64 : Tryd.f85.ntmps = 14 := Tryd.ntmps85
def ic_math_bits_TrailingZeros64 : IC := (.seq (io [em 2 (ci 0)])
  (.seq (.seq (io [em 3 t0, eb 4 .eql t3 (.c (.int .u64 0))])
  (.cond t4
  (.seq (io [em 2 (ci 64)])
  .ret)
  .skip))
  (.seq (io [em 5 t0, em 6 t0, .o 7 (.un .neg t6), eb 8 .and t5 t7, eb 9 .mul t8 (.c (.int .u64 285870213051353865)), eb 10 .shr t9 (.c (.int .u64 58)), .o 11 (.ixa 64 1 (.g 6) t10), el 12 false 1 t11, .o 13 (.conv .i64 t12), em 2 t13])
  .ret)))
theorem hc_math_bits_TrailingZeros64 : compF Tryd.prog 14 Tryd.f85 = some (ic_math_bits_TrailingZeros64, [.t 2]) := by kernel_rfl

theorem fn_internal_strconv_lower : Tryd.prog.funcs[internal_strconv_lower]? = some Tryd.f86 := Tryd.func86
theorem nt_internal_strconv_lower : Tryd.f86.ntmps = 5 := Tryd.ntmps86
def ic_internal_strconv_lower : IC := (.seq (io [em 2 (.c (.int .u8 0))])
  (.seq (io [em 3 t0, eb 4 .or t3 (.c (.int .u8 32)), em 2 t4])
  .ret))
theorem hc_internal_strconv_lower : compF Tryd.prog 5 Tryd.f86 = some (ic_internal_strconv_lower, [.t 2]) := by kernel_rfl

theorem fn_internal_strconv_underscoreOK : Tryd.prog.funcs[internal_strconv_underscoreOK]? = some Tryd.f87 := Tryd.func87
theorem nt_internal_strconv_underscoreOK : Tryd.f87.ntmps = 94 := Tryd.ntmps87
def ic_internal_strconv_underscoreOK : IC := (.seq (io [em 2 cf])
  (.seq (io [em 3 (.c (.int .i32 94))])
  (.seq (io [em 4 (ci 0)])
  (.seq (.seq (io [em 6 t0, .o 7 (.lens t6), eb 8 .geq t7 (ci 1), em 9 t8, .og 10 9 true (.mv t0), .og 11 9 true (.ixb t10 (ci 0)), .og 12 9 true (.bin .eql t11 (.c (.int .u8 45))), .og 13 9 true (.mv t12), .og 14 13 false (.mv t0), .og 15 13 false (.ixb t14 (ci 0)), .og 16 13 false (.bin .eql t15 (.c (.int .u8 43))), .og 17 9 true (.pick t13 ct t16), .o 18 (.pick t9 t17 cf)])
  (.cond t18
  (.ops [em 19 t0, .o 20 (.sls t19 (ci 1) .no), em 0 t20])
  .skip))
  (.seq (io [em 5 cf])
  (.seq (.seq (io [em 21 t0, .o 22 (.lens t21), eb 23 .geq t22 (ci 2), em 24 t23, .og 25 24 true (.mv t0), .og 26 24 true (.ixb t25 (ci 0)), .og 27 24 true (.bin .eql t26 (.c (.int .u8 48))), .o 28 (.pick t24 t27 cf), em 29 t28, .og 30 29 true (.mv t0), .og 31 29 true (.ixb t30 (ci 1)), .og 32 29 true (.call 86 [t31]), .og 33 29 true (.bin .eql t32 (.c (.int .u8 98))), .og 34 29 true (.mv t33), .og 35 34 false (.mv t0), .og 36 34 false (.ixb t35 (ci 1)), .og 37 34 false (.call 86 [t36]), .og 38 34 false (.bin .eql t37 (.c (.int .u8 111))), .og 39 29 true (.pick t34 ct t38), .og 40 29 true (.mv t39), .og 41 40 false (.mv t0), .og 42 40 false (.ixb t41 (ci 1)), .og 43 40 false (.call 86 [t42]), .og 44 40 false (.bin .eql t43 (.c (.int .u8 120))), .og 45 29 true (.pick t40 ct t44), .o 46 (.pick t29 t45 cf)])
  (.cond t46
  (.seq (io [em 4 (ci 2)])
  (.seq (io [em 3 (.c (.int .i32 48))])
  (.ops [em 47 t0, .o 48 (.ixb t47 (ci 1)), ec 49 86 [t48], eb 50 .eql t49 (.c (.int .u8 120)), em 5 t50])))
  .skip))
  (.seq (.block 0 (.loop (.seq (.seq (io [em 51 t4, em 52 t0, .o 53 (.lens t52), eb 54 .lss t51 t53])
  (.cond t54
  .skip
  (.exit 0)))
  (.seq (.block 1 (.seq (.seq (io [em 57 t0, em 58 t4, .o 59 (.ixb t57 t58), eb 60 .leq (.c (.int .u8 48)) t59, em 61 t60, .og 62 61 true (.mv t0), .og 63 61 true (.mv t4), .og 64 61 true (.ixb t62 t63), .og 65 61 true (.bin .leq t64 (.c (.int .u8 57))), .o 66 (.pick t61 t65 cf), em 67 t66, .og 68 67 false (.mv t5), .og 69 67 false (.mv t68), .og 70 69 true (.mv t0), .og 71 69 true (.mv t4), .og 72 69 true (.ixb t70 t71), .og 73 69 true (.call 86 [t72]), .og 74 69 true (.bin .leq (.c (.int .u8 97)) t73), .og 75 67 false (.pick t69 t74 cf), .og 76 67 false (.mv t75), .og 77 76 true (.mv t0), .og 78 76 true (.mv t4), .og 79 76 true (.ixb t77 t78), .og 80 76 true (.call 86 [t79]), .og 81 76 true (.bin .leq t80 (.c (.int .u8 102))), .og 82 67 false (.pick t76 t81 cf), .o 83 (.pick t67 ct t82)])
  (.cond t83
  (.seq (io [em 3 (.c (.int .i32 48))])
  (.exit 1))
  .skip))
  (.seq (.seq (io [em 84 t0, em 85 t4, .o 86 (.ixb t84 t85), eb 87 .eql t86 (.c (.int .u8 95))])
  (.cond t87
  (.seq (.seq (io [em 88 t3, eb 89 .neq t88 (.c (.int .i32 48))])
  (.cond t89
  (.seq (io [em 2 cf])
  .ret)
  .skip))
  (.seq (io [em 3 (.c (.int .i32 95))])
  (.exit 1)))
  .skip))
  (.seq (.seq (io [em 90 t3, eb 91 .eql t90 (.c (.int .i32 95))])
  (.cond t91
  (.seq (io [em 2 cf])
  .ret)
  .skip))
  (.ops [em 3 (.c (.int .i32 33))])))))
  (.ops [em 55 t4, eb 56 .add t55 (ci 1), em 4 t56])))))
  (.seq (io [em 92 t3, eb 93 .neq t92 (.c (.int .i32 95)), em 2 t93])
  .ret))))))))
theorem hc_internal_strconv_underscoreOK : compF Tryd.prog 94 Tryd.f87 = some (ic_internal_strconv_underscoreOK, [.t 2]) := by kernel_rfl

end Go.Proofs.YtankpibkakfnhaaDoor
