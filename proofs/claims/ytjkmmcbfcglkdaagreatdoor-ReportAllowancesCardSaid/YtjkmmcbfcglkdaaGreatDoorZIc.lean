/- The given functions as the walk reads them: each constant is what the program's text comes to. No condition. -/
import Derived.Test.YtjkmmcbfcglkdaaGreatDoorK7
import Derived.Test.YtjkmmcbfcglkdaaGreatDoorK6
import Derived.Test.YtjkmmcbfcglkdaaGreatDoorProg
import Derived.KernelRfl
set_option linter.all false
namespace Go.Proofs.YtjkmmcbfcglkdaaGreatDoor
open Go Ar
set_option linter.unusedVariables false
set_option maxRecDepth 100000
def sideL : List Int := [1, 1, 1, 1, -1, -1, -1, -1, -1, 1, -1, 1]
abbrev gl0 : Nat → AV := fun k => match k with
  | 0 => .elt 1 12 (fun _ => .arr 12 1 (fun i => I (at_ sideL i))) 0 []
  | _ => .any
theorem gl0n : ∀ i, nf (gl0 i) := fun i => by
  match i with
  | 0 => exact fun _ _ => trivial
  | _ + 1 => trivial
theorem side_ok (i : Nat) : okI .i64 (at_ sideL i) := by
  by_cases h : i < 12
  · have : i = 0 ∨ i = 1 ∨ i = 2 ∨ i = 3 ∨ i = 4 ∨ i = 5 ∨ i = 6 ∨ i = 7 ∨ i = 8 ∨ i = 9 ∨ i = 10 ∨ i = 11 := by omega
    rcases this with rfl | rfl | rfl | rfl | rfl | rfl | rfl | rfl | rfl | rfl | rfl | rfl <;> decide
  · have : at_ sideL i = 0 := by
      unfold at_ sideL
      rw [List.getD_eq_getElem?_getD, List.getElem?_eq_none (by simp; omega)]
      rfl
    rw [this]; decide
theorem gl0w : GlW gl0 := glw_row 12 _ (fun i => .int .i64 (at_ sideL i)) rfl (fun _ => rfl) (fun _ => rfl) side_ok
theorem mixed : Tryz.prog.follows .mixedOrders = true := rfl
abbrev zi : AV := .val (.int .i64 0)
abbrev zs : AV := .val (.slice none 0 0)
abbrev zc (a : AV) : AV := .cons zi a
abbrev zf (a : AV) : AV := .cons (.val (.bool false)) a
abbrev ci (n : Int) : X := .c (.int .i64 n)
abbrev cf : X := .c (.bool false)
abbrev ct : X := .c (.bool true)
abbrev em (d : Nat) (x : X) : Ent := .o d (.mv x)
abbrev eb (d : Nat) (b : BinOp) (x y : X) : Ent := .o d (.bin b x y)
abbrev el (d : Nat) (g : Bool) (n : Nat) (x : X) : Ent := .o d (.ld g n x)
abbrev ef (d k o : Nat) (x : X) : Ent := .o d (.fa k o x)
abbrev ex (d k : Nat) (x : X) : Ent := .o d (.ext k x)
abbrev es (d e : Nat) (x i : X) : Ent := .o d (.ixs e x i)
abbrev ec (d f : Nat) (l : List X) : Ent := .o d (.call f l)
abbrev io (l : List Ent) : IC := .ops l
abbrev t0 : X := .t 0
abbrev t1 : X := .t 1
abbrev t2 : X := .t 2
abbrev t3 : X := .t 3
abbrev t4 : X := .t 4
abbrev t5 : X := .t 5
abbrev t6 : X := .t 6
abbrev t7 : X := .t 7
abbrev t8 : X := .t 8
abbrev t9 : X := .t 9
abbrev t10 : X := .t 10
abbrev t11 : X := .t 11
abbrev t12 : X := .t 12
abbrev t13 : X := .t 13
abbrev t14 : X := .t 14
abbrev t15 : X := .t 15
abbrev t16 : X := .t 16
abbrev t17 : X := .t 17
abbrev t18 : X := .t 18
abbrev t19 : X := .t 19
abbrev t20 : X := .t 20
abbrev t21 : X := .t 21
abbrev t22 : X := .t 22
abbrev t23 : X := .t 23
abbrev t24 : X := .t 24
abbrev t25 : X := .t 25
abbrev t26 : X := .t 26
abbrev t27 : X := .t 27
abbrev t28 : X := .t 28
abbrev t29 : X := .t 29
abbrev t30 : X := .t 30
abbrev t31 : X := .t 31
abbrev t32 : X := .t 32
abbrev t33 : X := .t 33
abbrev t34 : X := .t 34
abbrev t35 : X := .t 35
abbrev t36 : X := .t 36
abbrev t37 : X := .t 37
abbrev t38 : X := .t 38
abbrev t39 : X := .t 39
abbrev t40 : X := .t 40
abbrev t41 : X := .t 41
abbrev t42 : X := .t 42
abbrev t43 : X := .t 43
abbrev t44 : X := .t 44
abbrev t45 : X := .t 45
abbrev t46 : X := .t 46
abbrev t47 : X := .t 47
abbrev t48 : X := .t 48
abbrev t49 : X := .t 49
abbrev t50 : X := .t 50
abbrev t51 : X := .t 51
abbrev t52 : X := .t 52
abbrev t53 : X := .t 53
abbrev t54 : X := .t 54
abbrev t55 : X := .t 55
abbrev t56 : X := .t 56
abbrev t57 : X := .t 57
abbrev t58 : X := .t 58
abbrev t59 : X := .t 59
abbrev t60 : X := .t 60
abbrev t61 : X := .t 61
abbrev t62 : X := .t 62
abbrev t63 : X := .t 63
abbrev t64 : X := .t 64
abbrev t65 : X := .t 65
abbrev t66 : X := .t 66
abbrev t67 : X := .t 67
abbrev t68 : X := .t 68
abbrev t69 : X := .t 69
abbrev t70 : X := .t 70
abbrev t71 : X := .t 71
abbrev t72 : X := .t 72
abbrev t73 : X := .t 73
abbrev t74 : X := .t 74
abbrev t75 : X := .t 75
abbrev t76 : X := .t 76
abbrev t77 : X := .t 77
abbrev t78 : X := .t 78
abbrev t79 : X := .t 79
abbrev t80 : X := .t 80
abbrev t81 : X := .t 81
abbrev t82 : X := .t 82
abbrev t83 : X := .t 83
abbrev t84 : X := .t 84
abbrev t85 : X := .t 85
abbrev t86 : X := .t 86
abbrev t87 : X := .t 87
abbrev t88 : X := .t 88
abbrev t89 : X := .t 89
abbrev t90 : X := .t 90
abbrev t91 : X := .t 91
abbrev t92 : X := .t 92
abbrev t93 : X := .t 93
abbrev t94 : X := .t 94
abbrev t95 : X := .t 95
abbrev t96 : X := .t 96
abbrev t97 : X := .t 97
abbrev t98 : X := .t 98
abbrev t99 : X := .t 99
abbrev t100 : X := .t 100
abbrev t101 : X := .t 101
abbrev t102 : X := .t 102
abbrev t103 : X := .t 103
abbrev t104 : X := .t 104
abbrev t105 : X := .t 105
abbrev t106 : X := .t 106
abbrev t107 : X := .t 107
abbrev t108 : X := .t 108
abbrev t109 : X := .t 109
abbrev t110 : X := .t 110
abbrev t111 : X := .t 111
abbrev t112 : X := .t 112
abbrev t113 : X := .t 113
abbrev t114 : X := .t 114
abbrev t115 : X := .t 115
abbrev t116 : X := .t 116
abbrev t117 : X := .t 117
abbrev t118 : X := .t 118
abbrev t119 : X := .t 119
abbrev t120 : X := .t 120
abbrev t121 : X := .t 121
abbrev t122 : X := .t 122
abbrev t123 : X := .t 123
abbrev t124 : X := .t 124
abbrev t125 : X := .t 125
abbrev t126 : X := .t 126
abbrev t127 : X := .t 127
abbrev t128 : X := .t 128
abbrev t129 : X := .t 129
abbrev t130 : X := .t 130
abbrev t131 : X := .t 131
abbrev t132 : X := .t 132
abbrev t133 : X := .t 133
abbrev t134 : X := .t 134
abbrev t135 : X := .t 135
abbrev t136 : X := .t 136
abbrev t137 : X := .t 137
abbrev t138 : X := .t 138
abbrev t139 : X := .t 139
abbrev t140 : X := .t 140
abbrev t141 : X := .t 141
abbrev t142 : X := .t 142
abbrev t143 : X := .t 143
abbrev t144 : X := .t 144
abbrev t145 : X := .t 145
abbrev t146 : X := .t 146
abbrev t147 : X := .t 147
abbrev t148 : X := .t 148
abbrev t149 : X := .t 149
abbrev t150 : X := .t 150
abbrev t151 : X := .t 151
abbrev t152 : X := .t 152
abbrev t153 : X := .t 153
abbrev t154 : X := .t 154
abbrev t155 : X := .t 155
abbrev t156 : X := .t 156
abbrev t157 : X := .t 157
abbrev t158 : X := .t 158
abbrev t159 : X := .t 159
abbrev t160 : X := .t 160
abbrev t161 : X := .t 161
abbrev t162 : X := .t 162
abbrev t163 : X := .t 163
abbrev t164 : X := .t 164
abbrev t165 : X := .t 165
abbrev t166 : X := .t 166
abbrev t167 : X := .t 167
abbrev l21_ReportAllowances : Nat := 5
abbrev l21_behind : Nat := 6
abbrev l21_twin : Nat := 7
abbrev l21_own : Nat := 8
abbrev report_Class : Nat := 9
abbrev r21_Class : Nat := 10
abbrev l21_still : Nat := 11
abbrev l21_sameDays : Nat := 12
abbrev report_Allowance : Nat := 15
abbrev r21_Allowance : Nat := 16
abbrev r12_Check : Nat := 17
abbrev r15_Begin : Nat := 18
abbrev r15_Apply : Nat := 19
abbrev loan_Look : Nat := 20
abbrev r14_Look : Nat := 21
abbrev money_Add : Nat := 22
abbrev report_exposure : Nat := 23
abbrev money_Bps : Nat := 24
abbrev r21_Exposure : Nat := 25
abbrev r1_Sum : Nat := 26
abbrev r1_Bps : Nat := 27
abbrev r12_may : Nat := 28
abbrev r15_opened : Nat := 29
abbrev r15_days : Nat := 30
abbrev r15_onLoan : Nat := 31
abbrev r15_refusal : Nat := 32
abbrev loan_Look_c1 : Nat := 33
abbrev policy_Check : Nat := 34
abbrev loan_give : Nat := 35
abbrev loan_owed : Nat := 36
abbrev loan_position : Nat := 37
abbrev aging_Days : Nat := 38
abbrev aging_PastDue : Nat := 39
abbrev loan_balance : Nat := 40
abbrev aging_Bucket : Nat := 41
abbrev aging_Oldest : Nat := 42
abbrev r14_days : Nat := 43
abbrev r14_pastDue : Nat := 44
abbrev r10_Bucket : Nat := 45
abbrev r14_of : Nat := 46
abbrev r10_Oldest : Nat := 47
abbrev r14_Position : Nat := 48
abbrev money_MulDiv : Nat := 49
abbrev r1_high : Nat := 50
abbrev r1_lowOf : Nat := 51
abbrev r1_joined : Nat := 52
abbrev r1_MulDiv : Nat := 53
abbrev r12_in : Nat := 54
abbrev r12_holidays : Nat := 55
abbrev r15_place : Nat := 56
abbrev r14_Open : Nat := 57
abbrev r15_noticed : Nat := 58
abbrev r15_first : Nat := 59
abbrev r15_rolled : Nat := 60
abbrev r15_called : Nat := 61
abbrev r15_changed : Nat := 62
abbrev r15_numbers : Nat := 63
abbrev policy_rules : Nat := 64
abbrev aging_lateness : Nat := 65
abbrev ledger_Balance : Nat := 66
abbrev aging_sound : Nat := 67
abbrev aging_front : Nat := 68
abbrev r10_Days : Nat := 69
abbrev r10_PastDue : Nat := 70
abbrev r8_Balance : Nat := 71
abbrev r10_rows : Nat := 72
abbrev r10_satisfied : Nat := 73
abbrev money_magnitude : Nat := 74
abbrev math_bits_Mul64 : Nat := 75
abbrev math_bits_Div64 : Nat := 76
abbrev money_withSign : Nat := 77
abbrev r1_size : Nat := 78
abbrev r1_over : Nat := 79
abbrev r1_times : Nat := 80
abbrev r1_digits : Nat := 81
abbrev r1_more : Nat := 82
abbrev r1_signed : Nat := 83
abbrev r14_begin : Nat := 84
abbrev r14_fail : Nat := 85
abbrev r14_wrong : Nat := 86
abbrev r3_Plan : Nat := 87
abbrev r13_Fresh : Nat := 88
abbrev r14_posted : Nat := 89
abbrev r14_move : Nat := 90
abbrev r14_done : Nat := 91
abbrev r14_Roll : Nat := 92
abbrev r14_Pay : Nat := 93
abbrev r14_Return : Nat := 94
abbrev r14_Refund : Nat := 95
abbrev r14_Waive : Nat := 96
abbrev r14_Promise : Nat := 97
abbrev r14_Restructure : Nat := 98
abbrev arrears_policy_between_int_ : Nat := 99
abbrev policy_rules_c1 : Nat := 100
abbrev arrears_policy_from_int_ : Nat := 101
abbrev policy_rules_c2 : Nat := 102
abbrev policy_rules_c3 : Nat := 103
abbrev policy_rules_c4 : Nat := 104
abbrev policy_rules_c5 : Nat := 105
abbrev arrears_policy_between_int64_ : Nat := 106
abbrev policy_rules_c6 : Nat := 107
abbrev arrears_policy_from_int64_ : Nat := 108
abbrev policy_rules_c7 : Nat := 109
abbrev policy_rules_c8 : Nat := 110
abbrev policy_rules_c9 : Nat := 111
abbrev policy_rules_c10 : Nat := 112
abbrev policy_rules_c11 : Nat := 113
abbrev policy_rules_c12 : Nat := 114
abbrev policy_rules_c13 : Nat := 115
abbrev policy_rules_c14 : Nat := 116
abbrev policy_rules_c15 : Nat := 117
abbrev policy_rules_c16 : Nat := 118
abbrev policy_rules_c17 : Nat := 119
abbrev policy_rules_c18 : Nat := 120
abbrev policy_rules_c19 : Nat := 121
abbrev policy_rules_c20 : Nat := 122
abbrev policy_days : Nat := 123
abbrev arrears_money_Sum_int64_ : Nat := 124
abbrev r10_late : Nat := 125
abbrev r10_before : Nat := 126
abbrev r10_paid : Nat := 127
abbrev r8_is : Nat := 128
abbrev r8_Debits : Nat := 129
abbrev r10_Sound : Nat := 130
abbrev math_bits_LeadingZeros64 : Nat := 131
abbrev r14_copied : Nat := 132
abbrev r3_Valid : Nat := 133
abbrev r3_Level : Nat := 134
abbrev r3_month : Nat := 135
abbrev r3_part : Nat := 136
abbrev r3_Due : Nat := 137
abbrev r8_Post : Nat := 138
abbrev r14_accrued : Nat := 139
abbrev r14_over : Nat := 140
abbrev r14_played : Nat := 141
abbrev r14_charged : Nat := 142
abbrev r14_parted : Nat := 143
abbrev r9_Entries : Nat := 144
abbrev r14_settled : Nat := 145
abbrev r9_Undo : Nat := 146
abbrev r14_forgotten : Nat := 147
abbrev r14_noted : Nat := 148
abbrev r14_owed : Nat := 149
abbrev r14_sum : Nat := 150
abbrev arrears_policy_between_int_1 : Nat := 151
abbrev arrears_policy_from_int_1 : Nat := 152
abbrev arrears_policy_between_int64_1 : Nat := 153
abbrev arrears_policy_from_int64_1 : Nat := 154
abbrev r10_amounts : Nat := 156
abbrev math_bits_Len64 : Nat := 157
abbrev r3_isRate : Nat := 158
abbrev r3_PaysOff : Nat := 159
abbrev r2_Civil : Nat := 160
abbrev r2_AddMonths : Nat := 161
abbrev r2_Adjust : Nat := 162
abbrev r8_refused : Nat := 163
abbrev r8_moves : Nat := 164
abbrev r8_OwnSide : Nat := 165
abbrev r3_Span : Nat := 166
abbrev r13_Step : Nat := 167
abbrev r14_acted : Nat := 168
abbrev r13_Open : Nat := 169
abbrev r10_Missed : Nat := 170
abbrev r12_Assess : Nat := 171
abbrev r10_Mark : Nat := 172
abbrev r9_Recover : Nat := 173
abbrev r9_Allocate : Nat := 174
abbrev r9_moves : Nat := 175
abbrev r2_isDay : Nat := 176
abbrev r2_yearLen : Nat := 177
abbrev r2_lenOf : Nat := 178
abbrev r2_Number : Nat := 179
abbrev r2_sought : Nat := 180
abbrev r13_numbers : Nat := 181
abbrev r13_standing : Nat := 182
abbrev r13_taken : Nat := 183
abbrev r14_given : Nat := 184
abbrev r12_good : Nat := 185
abbrev r12_LateFee : Nat := 186
abbrev r12_room : Nat := 187
abbrev r9_Turn : Nat := 188
abbrev r9_part : Nat := 189
abbrev r9_with : Nat := 190
abbrev r2_divides : Nat := 191
abbrev r2_MonthLen : Nat := 192
abbrev r2_Business : Nat := 193
abbrev r13_fits : Nat := 194
abbrev r13_age : Nat := 195
abbrev r13_paid : Nat := 196
abbrev r13_returned : Nat := 197
abbrev r13_ended : Nat := 198
abbrev r13_cure : Nat := 199
abbrev r9_wants : Nat := 200
abbrev r2_Weekday : Nat := 201
abbrev r13_back : Nat := 202
abbrev r13_quiet : Nat := 203
abbrev r13_cleared : Nat := 204
theorem fn_l21_ReportAllowances : Tryz.prog.funcs[l21_ReportAllowances]? = some Tryz.f5 := Tryz.func5
theorem nt_l21_ReportAllowances : Tryz.f5.ntmps = 55 := Tryz.ntmps5
def ic_l21_ReportAllowances : IC := (.seq (io [.o 3 (.box t0), .o 5 (.box t2), em 6 cf])
  (.seq (io [el 14 true 18 t3, em 15 t1, ec 16 6 [t14, t15, (ci 200)], .o 7 (.alloc (.st (zc (.cons zs (.cons zs .nil))))), .n (.sto 3 t7 t16)])
  (.seq (io [el 17 true 3 t7, ec 18 7 [t17], .o 8 (.alloc (.st (zc (.cons zs (.cons zs .nil))))), .n (.sto 3 t8 t18)])
  (.seq (io [el 19 true 18 t3, ec 20 8 [t19], .o 9 (.alloc (.st (zc (zc (zc (zc (zc (zc (zc (zc (zc (zc (zc (zc (zc (zc (zc (zc (zc (.cons zs .nil)))))))))))))))))))), .n (.sto 18 t9 t20)])
  (.seq (io [el 22 true 18 t9, el 23 true 3 t8, el 24 true 5 t5, ec 25 15 [t22, t23, t24], em 21 t25, ex 26 0 t21, ex 27 1 t21, .o 10 (.alloc (.arr 5 1 fun _ => zi)), .n (.sto 5 t10 t26), em 11 t27])
  (.seq (io [el 29 true 18 t3, el 30 true 3 t7, el 31 true 5 t5, ec 32 16 [t29, t30, t31], em 28 t32, ex 33 0 t28, ex 34 1 t28, .o 12 (.alloc (.arr 5 1 fun _ => zi)), .n (.sto 5 t12 t33), em 13 t34])
  (.seq (io [el 35 true 5 t10, el 36 true 5 t12, .o 37 (.eqs false (.arr 5 1 .int) t35 t36), em 38 t37, .og 39 38 true (.mv t11), .og 40 38 true (.mv t13), .og 41 38 true (.eqv false t39 t40), .o 42 (.pick t38 t41 cf), em 43 t42, .og 44 43 true (.ld true 3 t8), .og 45 43 true (.ld true 3 t7), .og 46 43 true (.call 11 [t44, t45]), .o 47 (.pick t43 t46 cf), em 48 t47, .og 49 48 true (.fa 17 17 t9), .og 50 48 true (.ld false 1 t49), .og 51 48 true (.fa 17 17 t3), .og 52 48 true (.ld false 1 t51), .og 53 48 true (.call 12 [t50, t52]), .o 54 (.pick t48 t53 cf), em 6 t54])
  .ret)))))))
theorem hc_l21_ReportAllowances : compF Tryz.prog 55 Tryz.f5 = some (ic_l21_ReportAllowances, [.t 6]) := by kernel_rfl
theorem fn_l21_behind : Tryz.prog.funcs[l21_behind]? = some Tryz.f6 := Tryz.func6
theorem nt_l21_behind : Tryz.f6.ntmps = 47 := Tryz.ntmps6
def ic_l21_behind : IC := (.seq (io [.o 3 (.box t0), .o 6 (.alloc (.st (zc (.cons zs (.cons zs .nil)))))])
  (.seq (io [el 12 true 18 t3, ec 13 17 [t12], em 11 t13, ex 14 0 t11, ex 15 1 t11, em 7 t14, em 8 t15])
  (.seq (.seq (io [em 16 t7, eb 17 .neq t16 (ci 0)])
  (.cond t17
  (.seq (io [.o 18 (.build (.st (zc (.cons zs (.cons zs .nil)))) []), .n (.sto 3 t6 t18)])
  .ret)
  .skip))
  (.seq (io [el 19 true 18 t3, ec 20 18 [t19], .o 9 (.alloc (.st (zc (.cons zs (.cons zs .nil))))), .n (.sto 3 t9 t20)])
  (.seq (.seq (io [em 10 (ci 0)])
  (.block 0 (.loop (.seq (.seq (io [em 21 t10, em 22 t1, .o 23 (.len t22), eb 24 .lss t21 t23, em 25 t24, .og 26 25 true (.mv t10), .og 27 25 true (.mv t2), .og 28 25 true (.bin .lss t26 t27), .o 29 (.pick t25 t28 cf), em 30 t29, .og 31 30 true (.mv t10), .og 32 30 true (.bin .lss t31 (ci 200)), .o 33 (.pick t30 t32 cf)])
  (.cond t33
  .skip
  (.exit 0)))
  (.seq (.block 1 (.dops [el 37 true 18 t3, el 38 true 3 t9, em 39 t1, em 40 t10, es 41 7 t39 t40, el 42 true 7 t41, ec 43 19 [t37, t38, t42], em 36 t43, ex 44 0 t36, ex 45 1 t36, .n (.sto 3 t9 t44)]))
  (.ops [em 34 t10, eb 35 .add t34 (ci 1), em 10 t35]))))))
  (.seq (io [el 46 true 3 t9, .n (.sto 3 t6 t46)])
  .ret))))))
theorem hc_l21_behind : compF Tryz.prog 47 Tryz.f6 = some (ic_l21_behind, [.c 6 true 3]) := by kernel_rfl
theorem fn_l21_twin : Tryz.prog.funcs[l21_twin]? = some Tryz.f7 := Tryz.func7
theorem nt_l21_twin : Tryz.f7.ntmps = 37 := Tryz.ntmps7
def ic_l21_twin : IC := (.seq (io [.o 1 (.box t0), .o 2 (.alloc (.st (zc (.cons zs (.cons zs .nil)))))])
  (.seq (io [em 3 (.c (.slice none 0 0))])
  (.seq (.seq (io [em 4 (ci 0)])
  (.block 0 (.loop (.seq (.seq (io [em 8 t4, ef 9 1 1 t1, el 10 false 1 t9, .o 11 (.len t10), eb 12 .lss t8 t11])
  (.cond t12
  .skip
  (.exit 0)))
  (.seq (.block 1 (.seq (io [ef 15 1 1 t1, el 16 false 1 t15, em 17 t4, es 18 46 t16 t17, el 19 true 46 t18, .o 5 (.alloc (.st (zc (.cons (.st (zc (zc (zc (zc (zc (zc .nil))))))) (.cons zs (.cons (.st (.cons (.arr 12 1 fun _ => zi) .nil)) (.cons (.st (zc (zf (zc (zc (zc (zc (zc (zc (zc (zc (zc (zc (zc (zc (zc .nil)))))))))))))))) (zc (zc (zc (.cons (.st (zc (zc (zc (zc (zc .nil)))))) (zf (zc (zc .nil)))))))))))))), .n (.sto 46 t5 t19)])
  (.seq (io [em 6 (.c (.slice none 0 0))])
  (.seq (io [em 20 t6, ef 21 2 7 t5, el 22 false 1 t21, .o 23 (.app 4 32 72 t20 t22), ef 24 2 7 t5, .n (.sto 1 t24 t23)])
  (.ops [em 25 t3, el 26 true 46 t5, .o 27 (.bsl 46 45 (.st (zc (.cons (.st (zc (zc (zc (zc (zc (zc .nil))))))) (.cons zs (.cons (.st (.cons (.arr 12 1 fun _ => zi) .nil)) (.cons (.st (zc (zf (zc (zc (zc (zc (zc (zc (zc (zc (zc (zc (zc (zc (zc .nil)))))))))))))))) (zc (zc (zc (.cons (.st (zc (zc (zc (zc (zc .nil)))))) (zf (zc (zc .nil))))))))))))) [(0, 0, 46, t26)]), .o 28 (.app 46 384 45 t25 t27), em 3 t28])))))
  (.ops [em 13 t4, eb 14 .add t13 (ci 1), em 4 t14]))))))
  (.seq (io [em 7 (.c (.slice none 0 0))])
  (.seq (io [em 29 t3, ef 30 1 1 t1, .n (.sto 1 t30 t29)])
  (.seq (io [em 31 t7, ef 32 2 2 t1, el 33 false 1 t32, .o 34 (.app 6 48 74 t31 t33), ef 35 2 2 t1, .n (.sto 1 t35 t34)])
  (.seq (io [el 36 true 3 t1, .n (.sto 3 t2 t36)])
  .ret)))))))
theorem hc_l21_twin : compF Tryz.prog 37 Tryz.f7 = some (ic_l21_twin, [.c 2 true 3]) := by kernel_rfl
theorem fn_l21_own : Tryz.prog.funcs[l21_own]? = some Tryz.f8 := Tryz.func8
theorem nt_l21_own : Tryz.f8.ntmps = 10 := Tryz.ntmps8
def ic_l21_own : IC := (.seq (io [.o 1 (.box t0), .o 2 (.alloc (.st (zc (zc (zc (zc (zc (zc (zc (zc (zc (zc (zc (zc (zc (zc (zc (zc (zc (.cons zs .nil))))))))))))))))))))])
  (.seq (io [em 3 (.c (.slice none 0 0))])
  (.seq (io [em 4 t3, ef 5 17 17 t1, el 6 false 1 t5, .o 7 (.app 1 8 3 t4 t6), ef 8 17 17 t1, .n (.sto 1 t8 t7)])
  (.seq (io [el 9 true 18 t1, .n (.sto 18 t2 t9)])
  .ret))))
theorem hc_l21_own : compF Tryz.prog 10 Tryz.f8 = some (ic_l21_own, [.c 2 true 18]) := by kernel_rfl
theorem fn_report_Class : Tryz.prog.funcs[report_Class]? = some Tryz.f9 := Tryz.func9
theorem nt_report_Class : Tryz.f9.ntmps = 16 := Tryz.ntmps9
def ic_report_Class : IC := (.seq (io [.o 2 (.box t0), .o 3 (.box t1), em 4 (ci 0)])
  (.seq (.seq (io [ef 5 4 20 t3, ef 6 0 0 t5, el 7 false 1 t6])
  (.block 0 (.seq (io [eb 9 .eql t7 (ci 9), em 8 t9])
  (.cond t8
  (.seq (io [em 4 (ci 6)])
  .ret)
  (.seq (io [eb 11 .eql t7 (ci 8), em 10 t11])
  (.cond t10
  (.seq (io [em 4 (ci 5)])
  .ret)
  .skip))))))
  (.seq (io [el 12 true 18 t2, el 13 true 46 t3, ec 14 20 [t12, t13], .o 15 (.fld false 1 2 2 t14), em 4 t15])
  .ret)))
theorem hc_report_Class : compF Tryz.prog 16 Tryz.f9 = some (ic_report_Class, [.t 4]) := by kernel_rfl
theorem fn_r21_Class : Tryz.prog.funcs[r21_Class]? = some Tryz.f10 := Tryz.func10
theorem nt_r21_Class : Tryz.f10.ntmps = 19 := Tryz.ntmps10
def ic_r21_Class : IC := (.seq (io [.o 2 (.box t0), .o 3 (.box t1), em 4 (ci 0)])
  (.seq (.seq (io [ef 6 4 20 t3, ef 7 0 0 t6, el 8 false 1 t7, eb 9 .eql t8 (ci 9)])
  (.cond t9
  (.seq (io [em 4 (ci 6)])
  .ret)
  .skip))
  (.seq (.seq (io [ef 10 4 20 t3, ef 11 0 0 t10, el 12 false 1 t11, eb 13 .eql t12 (ci 8)])
  (.cond t13
  (.seq (io [em 4 (ci 5)])
  .ret)
  .skip))
  (.seq (io [el 14 true 18 t2, el 15 true 46 t3, ec 16 21 [t14, t15], .o 5 (.alloc (.st (zc (zc (zc (zc (zc (zc (zc (zc (zc (zc (zc (zc (zc (zc (zc (zc (zc (zc (zc (zc (zc .nil))))))))))))))))))))))), .n (.sto 21 t5 t16)])
  (.seq (io [ef 17 2 2 t5, el 18 false 1 t17, em 4 t18])
  .ret)))))
theorem hc_r21_Class : compF Tryz.prog 19 Tryz.f10 = some (ic_r21_Class, [.t 4]) := by kernel_rfl
theorem fn_l21_still : Tryz.prog.funcs[l21_still]? = some Tryz.f11 := Tryz.func11
theorem nt_l21_still : Tryz.f11.ntmps = 168 := Tryz.ntmps11
def ic_l21_still : IC := (.seq (io [.o 2 (.box t0), .o 3 (.box t1), em 4 cf])
  (.seq (.seq (io [ef 10 0 0 t2, el 11 false 1 t10, ef 12 0 0 t3, el 13 false 1 t12, eb 14 .neq t11 t13, em 15 t14, .og 16 15 false (.fa 1 1 t2), .og 17 15 false (.ld false 1 t16), .og 18 15 false (.len t17), .og 19 15 false (.fa 1 1 t3), .og 20 15 false (.ld false 1 t19), .og 21 15 false (.len t20), .og 22 15 false (.bin .neq t18 t21), .o 23 (.pick t15 ct t22), em 24 t23, .og 25 24 false (.fa 2 2 t2), .og 26 24 false (.ld false 1 t25), .og 27 24 false (.len t26), .og 28 24 false (.fa 2 2 t3), .og 29 24 false (.ld false 1 t28), .og 30 24 false (.len t29), .og 31 24 false (.bin .neq t27 t30), .o 32 (.pick t24 ct t31)])
  (.cond t32
  (.seq (io [em 4 cf])
  .ret)
  .skip))
  (.seq (.seq (io [em 5 (ci 0)])
  (.block 0 (.loop (.seq (.seq (io [em 33 t5, ef 34 1 1 t2, el 35 false 1 t34, .o 36 (.len t35), eb 37 .lss t33 t36])
  (.cond t37
  .skip
  (.exit 0)))
  (.seq (.block 1 (.seq (io [ef 40 1 1 t2, el 41 false 1 t40, em 42 t5, es 43 46 t41 t42, el 44 true 46 t43, .o 6 (.alloc (.st (zc (.cons (.st (zc (zc (zc (zc (zc (zc .nil))))))) (.cons zs (.cons (.st (.cons (.arr 12 1 fun _ => zi) .nil)) (.cons (.st (zc (zf (zc (zc (zc (zc (zc (zc (zc (zc (zc (zc (zc (zc (zc .nil)))))))))))))))) (zc (zc (zc (.cons (.st (zc (zc (zc (zc (zc .nil)))))) (zf (zc (zc .nil)))))))))))))), .n (.sto 46 t6 t44)])
  (.seq (io [ef 45 1 1 t3, el 46 false 1 t45, em 47 t5, es 48 46 t46 t47, el 49 true 46 t48, .o 7 (.alloc (.st (zc (.cons (.st (zc (zc (zc (zc (zc (zc .nil))))))) (.cons zs (.cons (.st (.cons (.arr 12 1 fun _ => zi) .nil)) (.cons (.st (zc (zf (zc (zc (zc (zc (zc (zc (zc (zc (zc (zc (zc (zc (zc .nil)))))))))))))))) (zc (zc (zc (.cons (.st (zc (zc (zc (zc (zc .nil)))))) (zf (zc (zc .nil)))))))))))))), .n (.sto 46 t7 t49)])
  (.seq (.seq (io [ef 50 0 0 t6, el 51 false 1 t50, ef 52 0 0 t7, el 53 false 1 t52, eb 54 .neq t51 t53, em 55 t54, .og 56 55 false (.fa 1 1 t6), .og 57 55 false (.ld true 6 t56), .og 58 55 false (.fa 1 1 t7), .og 59 55 false (.ld true 6 t58), .og 60 55 false (.eqs true (.st (.cons .int (.cons .int (.cons .int (.cons .int (.cons .int (.cons .int .nil))))))) t57 t59), .o 61 (.pick t55 ct t60), em 62 t61, .og 63 62 false (.fa 3 8 t6), .og 64 62 false (.ld true 12 t63), .og 65 62 false (.fa 3 8 t7), .og 66 62 false (.ld true 12 t65), .og 67 62 false (.eqs true (.st (.cons (.arr 12 1 .int) .nil)) t64 t66), .o 68 (.pick t62 ct t67), em 69 t68, .og 70 69 false (.fa 4 20 t6), .og 71 69 false (.ld true 15 t70), .og 72 69 false (.fa 4 20 t7), .og 73 69 false (.ld true 15 t72), .og 74 69 false (.eqs true (.st (.cons .int (.cons .bool (.cons .int (.cons .int (.cons .int (.cons .int (.cons .int (.cons .int (.cons .int (.cons .int (.cons .int (.cons .int (.cons .int (.cons .int (.cons .int .nil)))))))))))))))) t71 t73), .o 75 (.pick t69 ct t74), em 76 t75, .og 77 76 false (.fa 5 35 t6), .og 78 76 false (.ld false 1 t77), .og 79 76 false (.fa 5 35 t7), .og 80 76 false (.ld false 1 t79), .og 81 76 false (.bin .neq t78 t80), .o 82 (.pick t76 ct t81), em 83 t82, .og 84 83 false (.fa 6 36 t6), .og 85 83 false (.ld false 1 t84), .og 86 83 false (.fa 6 36 t7), .og 87 83 false (.ld false 1 t86), .og 88 83 false (.bin .neq t85 t87), .o 89 (.pick t83 ct t88), em 90 t89, .og 91 90 false (.fa 7 37 t6), .og 92 90 false (.ld false 1 t91), .og 93 90 false (.fa 7 37 t7), .og 94 90 false (.ld false 1 t93), .og 95 90 false (.bin .neq t92 t94), .o 96 (.pick t90 ct t95), em 97 t96, .og 98 97 false (.fa 11 45 t6), .og 99 97 false (.ld false 1 t98), .og 100 97 false (.fa 11 45 t7), .og 101 97 false (.ld false 1 t100), .og 102 97 false (.bin .neq t99 t101), .o 103 (.pick t97 ct t102)])
  (.cond t103
  (.seq (io [em 4 cf])
  .ret)
  .skip))
  (.seq (.seq (io [ef 104 8 38 t6, el 105 true 5 t104, ef 106 8 38 t7, el 107 true 5 t106, .o 108 (.eqs true (.st (.cons .int (.cons .int (.cons .int (.cons .int (.cons .int .nil)))))) t105 t107), em 109 t108, .og 110 109 false (.fa 9 43 t6), .og 111 109 false (.ld false 1 t110), .og 112 109 false (.fa 9 43 t7), .og 113 109 false (.ld false 1 t112), .og 114 109 false (.eqv true t111 t113), .o 115 (.pick t109 ct t114), em 116 t115, .og 117 116 false (.fa 10 44 t6), .og 118 116 false (.ld false 1 t117), .og 119 116 false (.fa 10 44 t7), .og 120 116 false (.ld false 1 t119), .og 121 116 false (.bin .neq t118 t120), .o 122 (.pick t116 ct t121), em 123 t122, .og 124 123 false (.fa 2 7 t6), .og 125 123 false (.ld false 1 t124), .og 126 123 false (.len t125), .og 127 123 false (.fa 2 7 t7), .og 128 123 false (.ld false 1 t127), .og 129 123 false (.len t128), .og 130 123 false (.bin .neq t126 t129), .o 131 (.pick t123 ct t130)])
  (.cond t131
  (.seq (io [em 4 cf])
  .ret)
  .skip))
  (.seq (io [em 8 (ci 0)])
  (.block 2 (.loop (.seq (.seq (io [em 132 t8, ef 133 2 7 t6, el 134 false 1 t133, .o 135 (.len t134), eb 136 .lss t132 t135])
  (.cond t136
  .skip
  (.exit 2)))
  (.seq (.block 3 (.seq (.dops [ef 139 2 7 t6, el 140 false 1 t139, em 141 t8, es 142 4 t140 t141, el 143 true 4 t142, ef 144 2 7 t7, el 145 false 1 t144, em 146 t8, es 147 4 t145 t146, el 148 true 4 t147, .o 149 (.eqs true (.st (.cons .int (.cons .int (.cons .int (.cons .bool .nil))))) t143 t148)])
  (.cond t149
  (.seq (io [em 4 cf])
  .ret)
  .skip)))
  (.ops [em 137 t8, eb 138 .add t137 (ci 1), em 8 t138])))))))))))
  (.ops [em 38 t5, eb 39 .add t38 (ci 1), em 5 t39]))))))
  (.seq (.seq (io [em 9 (ci 0)])
  (.block 4 (.loop (.seq (.seq (io [em 150 t9, ef 151 2 2 t2, el 152 false 1 t151, .o 153 (.len t152), eb 154 .lss t150 t153])
  (.cond t154
  .skip
  (.exit 4)))
  (.seq (.block 5 (.seq (.dops [ef 157 2 2 t2, el 158 false 1 t157, em 159 t9, es 160 6 t158 t159, el 161 true 6 t160, ef 162 2 2 t3, el 163 false 1 t162, em 164 t9, es 165 6 t163 t164, el 166 true 6 t165, .o 167 (.eqs true (.st (.cons .int (.cons .int (.cons .int (.cons .int (.cons .int (.cons .bool .nil))))))) t161 t166)])
  (.cond t167
  (.seq (io [em 4 cf])
  .ret)
  .skip)))
  (.ops [em 155 t9, eb 156 .add t155 (ci 1), em 9 t156]))))))
  (.seq (io [em 4 ct])
  .ret)))))
theorem hc_l21_still : compF Tryz.prog 168 Tryz.f11 = some (ic_l21_still, [.t 4]) := by kernel_rfl
theorem fn_l21_sameDays : Tryz.prog.funcs[l21_sameDays]? = some Tryz.f12 := Tryz.func12
theorem nt_l21_sameDays : Tryz.f12.ntmps = 26 := Tryz.ntmps12
def ic_l21_sameDays : IC := (.seq (io [em 4 cf])
  (.seq (.seq (io [em 6 t0, .o 7 (.len t6), em 8 t1, .o 9 (.len t8), eb 10 .neq t7 t9])
  (.cond t10
  (.seq (io [em 4 cf])
  .ret)
  .skip))
  (.seq (.seq (io [em 5 (ci 0)])
  (.block 0 (.loop (.seq (.seq (io [em 11 t5, em 12 t0, .o 13 (.len t12), eb 14 .lss t11 t13])
  (.cond t14
  .skip
  (.exit 0)))
  (.seq (.block 1 (.seq (.dops [em 17 t0, em 18 t5, es 19 1 t17 t18, el 20 false 1 t19, em 21 t1, em 22 t5, es 23 1 t21 t22, el 24 false 1 t23, eb 25 .neq t20 t24])
  (.cond t25
  (.seq (io [em 4 cf])
  .ret)
  .skip)))
  (.ops [em 15 t5, eb 16 .add t15 (ci 1), em 5 t16]))))))
  (.seq (io [em 4 ct])
  .ret))))
theorem hc_l21_sameDays : compF Tryz.prog 26 Tryz.f12 = some (ic_l21_sameDays, [.t 4]) := by kernel_rfl
theorem fn_report_Allowance : Tryz.prog.funcs[report_Allowance]? = some Tryz.f15 := Tryz.func15
theorem nt_report_Allowance : Tryz.f15.ntmps = 84 := Tryz.ntmps15
def ic_report_Allowance : IC := (.seq (io [.o 3 (.box t0), .o 4 (.box t1), .o 5 (.box t2), .o 6 (.alloc (.arr 5 1 fun _ => zi)), em 7 cf])
  (.seq (io [.o 8 (.alloc (.arr 5 1 fun _ => zi))])
  (.seq (.seq (io [el 21 true 5 t5, em 22 (ci 0)])
  (.block 0 (.loop (.seq (io [eb 23 .lss t22 (ci 5)])
  (.seq (.cond t23
  .skip
  (.exit 0))
  (.seq (.block 1 (.seq (io [.o 24 (.ix false 5 1 t21 t22), em 10 t24])
  (.seq (io [em 25 t10, eb 26 .lss t25 (ci 0), em 27 t26, .og 28 27 false (.mv t10), .og 29 27 false (.bin .gtr t28 (ci 10000)), .o 30 (.pick t27 ct t29)])
  (.cond t30
  (.seq (io [.o 31 (.build (.arr 5 1 fun _ => zi) []), .n (.sto 5 t6 t31), em 7 cf])
  .ret)
  .skip))))
  (.ops [eb 32 .add t22 (ci 1), em 22 t32])))))))
  (.seq (.seq (io [ef 33 1 1 t4, el 34 false 1 t33, .o 35 (.len t34), em 36 (ci 0)])
  (.block 2 (.loop (.seq (io [eb 37 .lss t36 t35])
  (.seq (.cond t37
  .skip
  (.exit 2))
  (.seq (.block 3 (.seq (io [es 38 46 t34 t36, el 39 true 46 t38, .o 12 (.alloc (.st (zc (.cons (.st (zc (zc (zc (zc (zc (zc .nil))))))) (.cons zs (.cons (.st (.cons (.arr 12 1 fun _ => zi) .nil)) (.cons (.st (zc (zf (zc (zc (zc (zc (zc (zc (zc (zc (zc (zc (zc (zc (zc .nil)))))))))))))))) (zc (zc (zc (.cons (.st (zc (zc (zc (zc (zc .nil)))))) (zf (zc (zc .nil)))))))))))))), .n (.sto 46 t12 t39)])
  (.seq (io [el 40 true 18 t3, el 41 true 46 t12, ec 42 9 [t40, t41], em 13 t42])
  (.seq (.seq (io [em 43 t13, eb 44 .geq t43 (ci 5)])
  (.cond t44
  (.exit 3)
  .skip))
  (.seq (.dops [em 46 t13, .o 47 (.ixa 5 1 t8 t46), el 48 false 1 t47, el 49 true 18 t3, el 50 true 46 t12, ec 51 20 [t49, t50], ec 52 23 [t51], ec 53 22 [t48, t52], em 45 t53, ex 54 0 t45, ex 55 1 t45, em 14 t54, em 15 t55])
  (.seq (.seq (io [em 56 t15, .o 57 (.un .not t56)])
  (.cond t57
  (.seq (io [.o 58 (.build (.arr 5 1 fun _ => zi) []), .n (.sto 5 t6 t58), em 7 cf])
  .ret)
  .skip))
  (.ops [em 59 t13, em 60 t14, .o 61 (.ixa 5 1 t8 t59), .n (.sto 1 t61 t60)])))))))
  (.ops [eb 62 .add t36 (ci 1), em 36 t62])))))))
  (.seq (io [.o 16 (.alloc (.arr 5 1 fun _ => zi))])
  (.seq (.seq (io [el 63 true 5 t8, em 64 (ci 0)])
  (.block 4 (.loop (.seq (io [eb 65 .lss t64 (ci 5)])
  (.seq (.cond t65
  .skip
  (.exit 4))
  (.seq (.block 5 (.seq (io [em 66 t64, .o 67 (.ix false 5 1 t63 t64), em 17 t66, em 18 t67])
  (.seq (io [em 69 t18, em 70 t17, .o 71 (.ixa 5 1 t5 t70), el 72 false 1 t71, ec 73 24 [t69, t72], em 68 t73, ex 74 0 t68, ex 75 1 t68, em 19 t74, em 20 t75])
  (.seq (.seq (io [em 76 t20, .o 77 (.un .not t76)])
  (.cond t77
  (.seq (io [.o 78 (.build (.arr 5 1 fun _ => zi) []), .n (.sto 5 t6 t78), em 7 cf])
  .ret)
  .skip))
  (.ops [em 79 t17, em 80 t19, .o 81 (.ixa 5 1 t16 t79), .n (.sto 1 t81 t80)])))))
  (.ops [eb 82 .add t64 (ci 1), em 64 t82])))))))
  (.seq (io [el 83 true 5 t16, .n (.sto 5 t6 t83), em 7 ct])
  .ret)))))))
theorem hc_report_Allowance : compF Tryz.prog 84 Tryz.f15 = some (ic_report_Allowance, [.c 6 true 5, .t 7]) := by kernel_rfl
theorem fn_r21_Allowance : Tryz.prog.funcs[r21_Allowance]? = some Tryz.f16 := Tryz.func16
theorem nt_r21_Allowance : Tryz.f16.ntmps = 77 := Tryz.ntmps16
def ic_r21_Allowance : IC := (.seq (io [.o 3 (.box t0), .o 4 (.box t1), .o 5 (.box t2), .o 6 (.alloc (.arr 5 1 fun _ => zi)), em 7 cf])
  (.seq (io [.o 8 (.alloc (.arr 5 1 fun _ => zi))])
  (.seq (.seq (io [em 9 (ci 0)])
  (.block 0 (.loop (.seq (.seq (io [em 16 t9, eb 17 .lss t16 (ci 5)])
  (.cond t17
  .skip
  (.exit 0)))
  (.seq (.block 1 (.seq (.seq (io [em 20 t9, .o 21 (.ixa 5 1 t5 t20), el 22 false 1 t21, eb 23 .lss t22 (ci 0), em 24 t23, .og 25 24 false (.mv t9), .og 26 24 false (.ixa 5 1 t5 t25), .og 27 24 false (.ld false 1 t26), .og 28 24 false (.bin .gtr t27 (ci 10000)), .o 29 (.pick t24 ct t28)])
  (.cond t29
  (.seq (io [.o 30 (.build (.arr 5 1 fun _ => zi) []), .n (.sto 5 t6 t30), em 7 cf])
  .ret)
  .skip))
  (.seq (io [em 10 (.c (.slice none 0 0))])
  (.seq (.seq (io [em 11 (ci 0)])
  (.block 2 (.loop (.seq (.seq (io [em 31 t11, ef 32 1 1 t4, el 33 false 1 t32, .o 34 (.len t33), eb 35 .lss t31 t34])
  (.cond t35
  .skip
  (.exit 2)))
  (.seq (.block 3 (.seq (.dops [el 38 true 18 t3, ef 39 1 1 t4, el 40 false 1 t39, em 41 t11, es 42 46 t40 t41, el 43 true 46 t42, ec 44 10 [t38, t43], em 45 t9, eb 46 .eql t44 t45])
  (.cond t46
  (.dops [em 47 t10, el 48 true 18 t3, ef 49 1 1 t4, el 50 false 1 t49, em 51 t11, es 52 46 t50 t51, el 53 true 46 t52, ec 54 25 [t48, t53], .o 55 (.bsl 1 2 zi [(0, 0, 1, t54)]), .o 56 (.app 1 8 2 t47 t55), em 10 t56])
  .skip)))
  (.ops [em 36 t11, eb 37 .add t36 (ci 1), em 11 t37]))))))
  (.seq (io [em 58 t10, ec 59 26 [t58], em 57 t59, ex 60 0 t57, ex 61 1 t57, em 12 t60, em 13 t61])
  (.seq (.seq (io [em 62 t13, .o 63 (.un .not t62)])
  (.cond t63
  (.seq (io [.o 64 (.build (.arr 5 1 fun _ => zi) []), .n (.sto 5 t6 t64), em 7 cf])
  .ret)
  .skip))
  (.seq (io [em 66 t12, em 67 t9, .o 68 (.ixa 5 1 t5 t67), el 69 false 1 t68, ec 70 27 [t66, t69], em 65 t70, ex 71 0 t65, ex 72 1 t65, em 14 t71, em 15 t72])
  (.ops [em 73 t9, em 74 t14, .o 75 (.ixa 5 1 t8 t73), .n (.sto 1 t75 t74)]))))))))
  (.ops [em 18 t9, eb 19 .add t18 (ci 1), em 9 t19]))))))
  (.seq (io [el 76 true 5 t8, .n (.sto 5 t6 t76), em 7 ct])
  .ret))))
theorem hc_r21_Allowance : compF Tryz.prog 77 Tryz.f16 = some (ic_r21_Allowance, [.c 6 true 5, .t 7]) := by kernel_rfl
theorem fn_r12_Check : Tryz.prog.funcs[r12_Check]? = some Tryz.f17 := Tryz.func17
theorem nt_r12_Check : Tryz.f17.ntmps = 14 := Tryz.ntmps17
def ic_r12_Check : IC := (.seq (io [.o 1 (.box t0), em 2 (ci 0), em 3 (ci 0)])
  (.seq (.seq (io [em 4 (ci 1)])
  (.block 0 (.loop (.seq (.seq (io [em 5 t4, eb 6 .leq t5 (ci 18)])
  (.cond t6
  .skip
  (.exit 0)))
  (.seq (.block 1 (.seq (io [el 9 true 18 t1, em 10 t4, ec 11 28 [t9, t10], .o 12 (.un .not t11)])
  (.cond t12
  (.seq (io [em 13 t4, em 2 (ci 120), em 3 t13])
  .ret)
  .skip)))
  (.ops [em 7 t4, eb 8 .add t7 (ci 1), em 4 t8]))))))
  (.seq (io [em 2 (ci 0), em 3 (ci 0)])
  .ret)))
theorem hc_r12_Check : compF Tryz.prog 14 Tryz.f17 = some (ic_r12_Check, [.t 2, .t 3]) := by kernel_rfl
theorem fn_r15_Begin : Tryz.prog.funcs[r15_Begin]? = some Tryz.f18 := Tryz.func18
theorem nt_r15_Begin : Tryz.f18.ntmps = 6 := Tryz.ntmps18
def ic_r15_Begin : IC := (.seq (io [.o 1 (.box t0), .o 2 (.alloc (.st (zc (.cons zs (.cons zs .nil)))))])
  (.seq (io [ef 3 0 0 t1, el 4 false 1 t3, .o 5 (.build (.st (zc (.cons zs (.cons zs .nil)))) [(0, 0, 1, t4)]), .n (.sto 3 t2 t5)])
  .ret))
theorem hc_r15_Begin : compF Tryz.prog 6 Tryz.f18 = some (ic_r15_Begin, [.c 2 true 3]) := by kernel_rfl
theorem fn_r15_Apply : Tryz.prog.funcs[r15_Apply]? = some Tryz.f19 := Tryz.func19
theorem nt_r15_Apply : Tryz.f19.ntmps = 43 := Tryz.ntmps19
def ic_r15_Apply : IC := (.seq (io [.o 3 (.box t0), .o 4 (.box t1), .o 5 (.box t2), .o 6 (.alloc (.st (zc (.cons zs (.cons zs .nil))))), .o 7 (.alloc (.st (zc (.cons zs .nil))))])
  (.seq (.seq (io [ef 8 0 0 t5, el 9 false 1 t8, eb 10 .eql t9 (ci 1)])
  (.cond t10
  (.seq (io [el 11 true 18 t3, el 12 true 3 t4, el 13 true 7 t5, ec 14 29 [t11, t12, t13], ex 15 0 t14, ex 16 1 t14, .n (.sto 3 t6 t15), .n (.sto 2 t7 t16)])
  .ret)
  .skip))
  (.seq (.seq (io [ef 17 0 0 t5, el 18 false 1 t17, eb 19 .eql t18 (ci 8)])
  (.cond t19
  (.seq (io [el 20 true 18 t3, el 21 true 3 t4, ef 22 5 5 t5, el 23 false 1 t22, ec 24 30 [t20, t21, t23], ex 25 0 t24, ex 26 1 t24, .n (.sto 3 t6 t25), .n (.sto 2 t7 t26)])
  .ret)
  .skip))
  (.seq (.seq (io [ef 27 0 0 t5, el 28 false 1 t27, eb 29 .geq t28 (ci 2), em 30 t29, .og 31 30 true (.fa 0 0 t5), .og 32 30 true (.ld false 1 t31), .og 33 30 true (.bin .leq t32 (ci 7)), .o 34 (.pick t30 t33 cf)])
  (.cond t34
  (.seq (io [el 35 true 18 t3, el 36 true 3 t4, el 37 true 7 t5, ec 38 31 [t35, t36, t37], ex 39 0 t38, ex 40 1 t38, .n (.sto 3 t6 t39), .n (.sto 2 t7 t40)])
  .ret)
  .skip))
  (.seq (.dops [el 41 true 3 t4, ec 42 32 [(ci 153)], .n (.sto 3 t6 t41), .n (.sto 2 t7 t42)])
  .ret)))))
theorem hc_r15_Apply : compF Tryz.prog 43 Tryz.f19 = some (ic_r15_Apply, [.c 6 true 3, .c 7 true 2]) := by kernel_rfl
theorem fn_loan_Look : Tryz.prog.funcs[loan_Look]? = some Tryz.f20 := Tryz.func20
theorem nt_loan_Look : Tryz.f20.ntmps = 93 := Tryz.ntmps20
def ic_loan_Look : IC := (.seq (io [.o 2 (.box t0), .o 3 (.box t1), .o 4 (.alloc (.st (zc (zc (zc (zc (zc (zc (zc (zc (zc (zc (zc (zc (zc (zc (zc (zc (zc (zc (zc (zc (zc .nil)))))))))))))))))))))))])
  (.seq (io [.o 12 (.mkf (.func 33) [] [t4]), .n (.dfr t12)])
  (.seq (io [el 14 true 18 t2, ec 15 34 [t14], em 13 t15, ex 16 0 t13, ex 17 1 t13, em 5 t16, em 6 t17])
  (.seq (io [em 18 t5, ec 19 35 [t18]])
  (.seq (.dopr 3 [(el 20 true 46 t3, []), (ec 21 36 [t20], []), (el 22 true 46 t3, []), (ec 23 37 [t22], []), (ef 24 4 20 t3, []), (el 25 true 15 t24, [3, 2]), (.o 7 (.alcN 3 (.st (zc (zc (zc .nil))))), []), (.o 8 (.alcN 2 (.st (zc (zc .nil)))), []), (.o 9 (.alcN 1 (.st (zc (zf (zc (zc (zc (zc (zc (zc (zc (zc (zc (zc (zc (zc (zc .nil))))))))))))))))), []), (.n (.stoN 3 3 t7 t21), []), (.n (.stoN 2 2 t8 t23), []), (.n (.stoN 1 15 t9 t25), [])])
  (.seq (.dops [ef 26 0 0 t9, el 27 false 1 t26, ef 28 2 7 t3, el 29 false 1 t28, el 30 true 2 t8, ef 31 5 35 t3, el 32 false 1 t31, ec 33 38 [t29, t30, t32], ef 34 2 7 t3, el 35 false 1 t34, el 36 true 2 t8, ef 37 5 35 t3, el 38 false 1 t37, ec 39 39 [t35, t36, t38], ef 40 0 0 t7, el 41 false 1 t40, ef 42 1 1 t7, el 43 false 1 t42, ef 44 2 2 t7, el 45 false 1 t44, el 46 true 46 t3, ec 47 40 [t46, (ci 4)], el 48 true 46 t3, ec 49 40 [t48, (ci 5)], ef 50 2 2 t9, el 51 false 1 t50, ef 52 11 11 t9, el 53 false 1 t52, ef 54 9 9 t9, el 55 false 1 t54, ef 56 10 10 t9, el 57 false 1 t56, ef 58 12 12 t9, el 59 false 1 t58, ef 60 5 5 t9, el 61 false 1 t60, ef 62 6 6 t9, el 63 false 1 t62, ef 64 4 4 t9, el 65 false 1 t64, ef 66 14 14 t9, el 67 false 1 t66, ef 68 10 44 t3, el 69 false 1 t68, el 70 true 46 t3, ec 71 40 [t70, (ci 10)], .o 72 (.build (.st (zc (zc (zc (zc (zc (zc (zc (zc (zc (zc (zc (zc (zc (zc (zc (zc (zc (zc (zc (zc (zc .nil)))))))))))))))))))))) [(0, 0, 1, t27), (1, 1, 1, t33), (3, 3, 1, t39), (4, 4, 1, t41), (5, 5, 1, t43), (6, 6, 1, t45), (7, 7, 1, t47), (8, 8, 1, t49), (9, 9, 1, t51), (10, 10, 1, t53), (11, 11, 1, t55), (12, 12, 1, t57), (13, 13, 1, t59), (14, 14, 1, t61), (15, 15, 1, t63), (16, 16, 1, t65), (18, 18, 1, t67), (19, 19, 1, t69), (20, 20, 1, t71)]), .n (.sto 21 t4 t72)])
  (.seq (io [ef 73 1 1 t4, el 74 false 1 t73, ec 75 41 [t74], ef 76 2 2 t4, .n (.sto 1 t76 t75)])
  (.seq (.seq (io [ef 78 2 7 t3, el 79 false 1 t78, el 80 true 2 t8, ec 81 42 [t79, t80], em 77 t81, ex 82 0 t77, ex 83 1 t77, em 10 t82, em 11 t83])
  (.seq (io [em 84 t11])
  (.cond t84
  (.ops [ef 85 2 7 t3, el 86 false 1 t85, em 87 t10, es 88 4 t86 t87, ef 89 0 0 t88, el 90 false 1 t89, ef 91 17 17 t4, .n (.sto 1 t91 t90)])
  .skip)))
  (.seq (io [el 92 true 21 t4, .n (.sto 21 t4 t92)])
  .ret)))))))))
theorem hc_loan_Look : compF Tryz.prog 93 Tryz.f20 = some (ic_loan_Look, [.c 4 true 21]) := by kernel_rfl
theorem fn_r14_Look : Tryz.prog.funcs[r14_Look]? = some Tryz.f21 := Tryz.func21
theorem nt_r14_Look : Tryz.f21.ntmps = 97 := Tryz.ntmps21
def ic_r14_Look : IC := (.seq (io [.o 2 (.box t0), .o 3 (.box t1), .o 4 (.alloc (.st (zc (zc (zc (zc (zc (zc (zc (zc (zc (zc (zc (zc (zc (zc (zc (zc (zc (zc (zc (zc (zc .nil)))))))))))))))))))))))])
  (.seq (io [el 12 true 18 t2, ec 13 17 [t12], em 11 t13, ex 14 0 t11, ex 15 1 t11, em 5 t14, em 6 t15])
  (.seq (.seq (io [em 16 t5, eb 17 .neq t16 (ci 0)])
  (.cond t17
  (.seq (io [.o 18 (.build (.st (zc (zc (zc (zc (zc (zc (zc (zc (zc (zc (zc (zc (zc (zc (zc (zc (zc (zc (zc (zc (zc .nil)))))))))))))))))))))) []), .n (.sto 21 t4 t18)])
  .ret)
  .skip))
  (.seq (io [ef 19 4 20 t3, el 20 true 15 t19, .o 7 (.alloc (.st (zc (zf (zc (zc (zc (zc (zc (zc (zc (zc (zc (zc (zc (zc (zc .nil))))))))))))))))), .n (.sto 15 t7 t20)])
  (.seq (.dops [ef 21 0 0 t7, el 22 false 1 t21, el 23 true 46 t3, ec 24 43 [t23], el 25 true 46 t3, ec 26 44 [t25], .o 27 (.build (.st (zc (zc (zc (zc (zc (zc (zc (zc (zc (zc (zc (zc (zc (zc (zc (zc (zc (zc (zc (zc (zc .nil)))))))))))))))))))))) [(0, 0, 1, t22), (1, 1, 1, t24), (3, 3, 1, t26)]), .o 8 (.alloc (.st (zc (zc (zc (zc (zc (zc (zc (zc (zc (zc (zc (zc (zc (zc (zc (zc (zc (zc (zc (zc (zc .nil))))))))))))))))))))))), .n (.sto 21 t8 t27)])
  (.seq (io [ef 28 1 1 t8, el 29 false 1 t28, ec 30 45 [t29], ef 31 2 2 t8, .n (.sto 1 t31 t30)])
  (.seq (io [el 32 true 46 t3, ec 33 46 [t32, (ci 3)], ef 34 4 4 t8, .n (.sto 1 t34 t33)])
  (.seq (io [el 35 true 46 t3, ec 36 46 [t35, (ci 2)], ef 37 5 5 t8, .n (.sto 1 t37 t36)])
  (.seq (io [el 38 true 46 t3, ec 39 46 [t38, (ci 1)], ef 40 6 6 t8, .n (.sto 1 t40 t39)])
  (.seq (io [el 41 true 46 t3, ec 42 46 [t41, (ci 4)], ef 43 7 7 t8, .n (.sto 1 t43 t42)])
  (.seq (io [el 44 true 46 t3, ec 45 46 [t44, (ci 5)], ef 46 8 8 t8, .n (.sto 1 t46 t45)])
  (.seq (io [ef 47 2 2 t7, el 48 false 1 t47, ef 49 9 9 t8, .n (.sto 1 t49 t48)])
  (.seq (io [ef 50 11 11 t7, el 51 false 1 t50, ef 52 10 10 t8, .n (.sto 1 t52 t51)])
  (.seq (io [ef 53 9 9 t7, el 54 false 1 t53, ef 55 11 11 t8, .n (.sto 1 t55 t54)])
  (.seq (io [ef 56 10 10 t7, el 57 false 1 t56, ef 58 12 12 t8, .n (.sto 1 t58 t57)])
  (.seq (io [ef 59 12 12 t7, el 60 false 1 t59, ef 61 13 13 t8, .n (.sto 1 t61 t60)])
  (.seq (io [ef 62 5 5 t7, el 63 false 1 t62, ef 64 14 14 t8, .n (.sto 1 t64 t63)])
  (.seq (io [ef 65 6 6 t7, el 66 false 1 t65, ef 67 15 15 t8, .n (.sto 1 t67 t66)])
  (.seq (io [ef 68 4 4 t7, el 69 false 1 t68, ef 70 16 16 t8, .n (.sto 1 t70 t69)])
  (.seq (.dops [ef 72 2 7 t3, el 73 false 1 t72, el 74 true 46 t3, ec 75 48 [t74], ec 76 47 [t73, t75], em 71 t76, ex 77 0 t71, ex 78 1 t71, em 9 t77, em 10 t78])
  (.seq (.seq (io [em 79 t10])
  (.cond t79
  (.ops [ef 80 2 7 t3, el 81 false 1 t80, em 82 t9, es 83 4 t81 t82, ef 84 0 0 t83, el 85 false 1 t84, ef 86 17 17 t8, .n (.sto 1 t86 t85)])
  .skip))
  (.seq (io [ef 87 14 14 t7, el 88 false 1 t87, ef 89 18 18 t8, .n (.sto 1 t89 t88)])
  (.seq (io [ef 90 10 44 t3, el 91 false 1 t90, ef 92 19 19 t8, .n (.sto 1 t92 t91)])
  (.seq (io [el 93 true 46 t3, ec 94 46 [t93, (ci 10)], ef 95 20 20 t8, .n (.sto 1 t95 t94)])
  (.seq (io [el 96 true 21 t8, .n (.sto 21 t4 t96)])
  .ret)))))))))))))))))))))))))
theorem hc_r14_Look : compF Tryz.prog 97 Tryz.f21 = some (ic_r14_Look, [.c 4 true 21]) := by kernel_rfl
theorem fn_money_Add : Tryz.prog.funcs[money_Add]? = some Tryz.f22 := Tryz.func22
theorem nt_money_Add : Tryz.f22.ntmps = 23 := Tryz.ntmps22
def ic_money_Add : IC := (.seq (io [em 4 (ci 0), em 5 cf])
  (.seq (io [em 7 t0, em 8 t1, eb 9 .add t7 t8, em 6 t9])
  (.seq (.seq (io [em 10 t0, eb 11 .geq t10 (ci 0), em 12 t1, eb 13 .geq t12 (ci 0), .o 14 (.eqv false t11 t13), em 15 t14, .og 16 15 true (.mv t6), .og 17 15 true (.bin .geq t16 (ci 0)), .og 18 15 true (.mv t0), .og 19 15 true (.bin .geq t18 (ci 0)), .og 20 15 true (.eqv true t17 t19), .o 21 (.pick t15 t20 cf)])
  (.cond t21
  (.seq (io [em 4 (ci 0), em 5 cf])
  .ret)
  .skip))
  (.seq (io [em 22 t6, em 4 t22, em 5 ct])
  .ret))))
theorem hc_money_Add : compF Tryz.prog 23 Tryz.f22 = some (ic_money_Add, [.t 4, .t 5]) := by kernel_rfl
theorem fn_report_exposure : Tryz.prog.funcs[report_exposure]? = some Tryz.f23 := Tryz.func23
theorem nt_report_exposure : Tryz.f23.ntmps = 15 := Tryz.ntmps23
def ic_report_exposure : IC := (.seq (io [.o 1 (.box t0), em 2 (ci 0)])
  (.seq (io [ef 3 4 4 t1, el 4 false 1 t3, ef 5 5 5 t1, el 6 false 1 t5, eb 7 .add t4 t6, ef 8 6 6 t1, el 9 false 1 t8, eb 10 .add t7 t9, ef 11 8 8 t1, el 12 false 1 t11, eb 13 .sub t10 t12, .o 14 (.mm true (ci 0) t13), em 2 t14])
  .ret))
theorem hc_report_exposure : compF Tryz.prog 15 Tryz.f23 = some (ic_report_exposure, [.t 2]) := by kernel_rfl
theorem fn_money_Bps : Tryz.prog.funcs[money_Bps]? = some Tryz.f24 := Tryz.func24
theorem nt_money_Bps : Tryz.f24.ntmps = 11 := Tryz.ntmps24
def ic_money_Bps : IC := (.seq (io [em 4 (ci 0), em 5 cf])
  (.seq (io [em 6 t0, em 7 t1, ec 8 49 [t6, t7, (ci 10000)], ex 9 0 t8, ex 10 1 t8, em 4 t9, em 5 t10])
  .ret))
theorem hc_money_Bps : compF Tryz.prog 11 Tryz.f24 = some (ic_money_Bps, [.t 4, .t 5]) := by kernel_rfl
theorem fn_r21_Exposure : Tryz.prog.funcs[r21_Exposure]? = some Tryz.f25 := Tryz.func25
theorem nt_r21_Exposure : Tryz.f25.ntmps = 24 := Tryz.ntmps25
def ic_r21_Exposure : IC := (.seq (io [.o 2 (.box t0), .o 3 (.box t1), em 4 (ci 0)])
  (.seq (io [el 7 true 18 t2, el 8 true 46 t3, ec 9 21 [t7, t8], .o 5 (.alloc (.st (zc (zc (zc (zc (zc (zc (zc (zc (zc (zc (zc (zc (zc (zc (zc (zc (zc (zc (zc (zc (zc .nil))))))))))))))))))))))), .n (.sto 21 t5 t9)])
  (.seq (io [ef 10 4 4 t5, el 11 false 1 t10, ef 12 5 5 t5, el 13 false 1 t12, eb 14 .add t11 t13, ef 15 6 6 t5, el 16 false 1 t15, eb 17 .add t14 t16, ef 18 8 8 t5, el 19 false 1 t18, eb 20 .sub t17 t19, em 6 t20])
  (.seq (.seq (io [em 21 t6, eb 22 .lss t21 (ci 0)])
  (.cond t22
  (.seq (io [em 4 (ci 0)])
  .ret)
  .skip))
  (.seq (io [em 23 t6, em 4 t23])
  .ret)))))
theorem hc_r21_Exposure : compF Tryz.prog 24 Tryz.f25 = some (ic_r21_Exposure, [.t 4]) := by kernel_rfl
theorem fn_r1_Sum : Tryz.prog.funcs[r1_Sum]? = some Tryz.f26 := Tryz.func26
theorem nt_r1_Sum : Tryz.f26.ntmps = 32 := Tryz.ntmps26
def ic_r1_Sum : IC := (.seq (io [em 2 (ci 0), em 3 cf])
  (.seq (io [em 4 (ci 0), em 5 (ci 0)])
  (.seq (.seq (io [em 6 (ci 0)])
  (.block 0 (.loop (.seq (.seq (io [em 7 t6, em 8 t0, .o 9 (.len t8), eb 10 .lss t7 t9])
  (.cond t10
  .skip
  (.exit 0)))
  (.seq (.block 1 (.seq (io [em 13 t4, em 14 t0, em 15 t6, es 16 1 t14 t15, el 17 false 1 t16, ec 18 50 [t17], eb 19 .add t13 t18, em 4 t19])
  (.ops [em 20 t5, em 21 t0, em 22 t6, es 23 1 t21 t22, el 24 false 1 t23, ec 25 51 [t24], eb 26 .add t20 t25, em 5 t26])))
  (.ops [em 11 t6, eb 12 .add t11 (ci 1), em 6 t12]))))))
  (.seq (io [em 27 t4, em 28 t5, ec 29 52 [t27, t28], ex 30 0 t29, ex 31 1 t29, em 2 t30, em 3 t31])
  .ret))))
theorem hc_r1_Sum : compF Tryz.prog 32 Tryz.f26 = some (ic_r1_Sum, [.t 2, .t 3]) := by kernel_rfl
theorem fn_r1_Bps : Tryz.prog.funcs[r1_Bps]? = some Tryz.f27 := Tryz.func27
theorem nt_r1_Bps : Tryz.f27.ntmps = 11 := Tryz.ntmps27
def ic_r1_Bps : IC := (.seq (io [em 4 (ci 0), em 5 cf])
  (.seq (io [em 6 t0, em 7 t1, ec 8 53 [t6, t7, (ci 10000)], ex 9 0 t8, ex 10 1 t8, em 4 t9, em 5 t10])
  .ret))
theorem hc_r1_Bps : compF Tryz.prog 11 Tryz.f27 = some (ic_r1_Bps, [.t 4, .t 5]) := by kernel_rfl
theorem fn_r12_may : Tryz.prog.funcs[r12_may]? = some Tryz.f28 := Tryz.func28
theorem nt_r12_may : Tryz.f28.ntmps = 105 := Tryz.ntmps28
def ic_r12_may : IC := (.seq (io [.o 2 (.box t0), em 4 cf])
  (.seq (.seq (io [em 5 t1])
  (.block 0 (.seq (io [eb 7 .eql t5 (ci 1), em 6 t7])
  (.cond t6
  (.seq (io [ef 8 0 0 t2, el 9 false 1 t8, ec 10 54 [t9, (ci 1), (ci 3652059)], em 4 t10])
  .ret)
  (.seq (io [eb 12 .eql t5 (ci 2), em 11 t12])
  (.cond t11
  (.seq (io [ef 13 1 1 t2, el 14 false 1 t13, ec 15 54 [t14, (ci 0), (ci 30)], em 4 t15])
  .ret)
  (.seq (io [eb 17 .eql t5 (ci 3), em 16 t17])
  (.cond t16
  (.seq (io [ef 18 2 2 t2, el 19 false 1 t18, ef 20 1 1 t2, el 21 false 1 t20, eb 22 .gtr t19 t21, em 23 t22, .og 24 23 true (.fa 2 2 t2), .og 25 23 true (.ld false 1 t24), .og 26 23 true (.bin .leq t25 (ci 365)), .o 27 (.pick t23 t26 cf), em 4 t27])
  .ret)
  (.seq (io [eb 29 .eql t5 (ci 4), em 28 t29])
  (.cond t28
  (.seq (io [ef 30 3 3 t2, el 31 false 1 t30, ec 32 54 [t31, (ci 1), (ci 365)], em 4 t32])
  .ret)
  (.seq (io [eb 34 .eql t5 (ci 5), em 33 t34])
  (.cond t33
  (.seq (io [ef 35 4 4 t2, el 36 false 1 t35, ec 37 54 [t36, (ci 0), (ci 10000)], em 4 t37])
  .ret)
  (.seq (io [eb 39 .eql t5 (ci 6), em 38 t39])
  (.cond t38
  (.seq (io [ef 40 5 5 t2, el 41 false 1 t40, ec 42 54 [t41, (ci 0), (ci 1000000000)], em 4 t42])
  .ret)
  (.seq (io [eb 44 .eql t5 (ci 7), em 43 t44])
  (.cond t43
  (.seq (io [ef 45 6 6 t2, el 46 false 1 t45, ef 47 5 5 t2, el 48 false 1 t47, ec 49 54 [t46, t48, (ci 1000000000)], em 4 t49])
  .ret)
  (.seq (io [eb 51 .eql t5 (ci 8), em 50 t51])
  (.cond t50
  (.seq (io [ef 52 7 7 t2, el 53 false 1 t52, ec 54 54 [t53, (ci 0), (ci 1000000000)], em 4 t54])
  .ret)
  (.seq (io [eb 56 .eql t5 (ci 9), em 55 t56])
  (.cond t55
  (.seq (io [ef 57 8 8 t2, el 58 false 1 t57, ec 59 54 [t58, (ci 0), (ci 1000000000)], em 4 t59])
  .ret)
  (.seq (io [eb 61 .eql t5 (ci 10), em 60 t61])
  (.cond t60
  (.seq (io [ef 62 9 9 t2, el 63 false 1 t62, ec 64 54 [t63, (ci 0), (ci 8)], em 4 t64])
  .ret)
  (.seq (io [eb 66 .eql t5 (ci 11), em 65 t66])
  (.cond t65
  (.seq (io [ef 67 10 10 t2, el 68 false 1 t67, ec 69 54 [t68, (ci 1), (ci 60)], em 4 t69])
  .ret)
  (.seq (io [eb 71 .eql t5 (ci 12), em 70 t71])
  (.cond t70
  (.seq (io [ef 72 11 11 t2, el 73 false 1 t72, ec 74 54 [t73, (ci 0), (ci 4)], em 4 t74])
  .ret)
  (.seq (io [eb 76 .eql t5 (ci 13), em 75 t76])
  (.cond t75
  (.seq (io [ef 77 12 12 t2, el 78 false 1 t77, ec 79 54 [t78, (ci 0), (ci 5)], em 4 t79])
  .ret)
  (.seq (io [eb 81 .eql t5 (ci 14), em 80 t81])
  (.cond t80
  (.seq (io [ef 82 13 13 t2, el 83 false 1 t82, ec 84 54 [t83, (ci 0), (ci 3)], em 4 t84])
  .ret)
  (.seq (io [eb 86 .eql t5 (ci 15), em 85 t86])
  (.cond t85
  (.seq (io [ef 87 14 14 t2, el 88 false 1 t87, ec 89 54 [t88, (ci 1), (ci 64)], em 4 t89])
  .ret)
  (.seq (io [eb 91 .eql t5 (ci 16), em 90 t91])
  (.cond t90
  (.seq (io [ef 92 15 15 t2, el 93 false 1 t92, ef 94 14 14 t2, el 95 false 1 t94, ec 96 54 [t93, t95, (ci 64)], em 4 t96])
  .ret)
  (.seq (io [eb 98 .eql t5 (ci 17), em 97 t98])
  (.cond t97
  (.seq (io [ef 99 16 16 t2, el 100 false 1 t99, ec 101 54 [t100, (ci 0), (ci 1000)], em 4 t101])
  .ret)
  .skip))))))))))))))))))))))))))))))))))))
  (.seq (io [ef 102 17 17 t2, el 103 false 1 t102, ec 104 55 [t103], em 4 t104])
  .ret)))
theorem hc_r12_may : compF Tryz.prog 105 Tryz.f28 = some (ic_r12_may, [.t 4]) := by kernel_rfl
theorem fn_r15_opened : Tryz.prog.funcs[r15_opened]? = some Tryz.f29 := Tryz.func29
theorem nt_r15_opened : Tryz.f29.ntmps = 122 := Tryz.ntmps29
def ic_r15_opened : IC := (.seq (io [.o 3 (.box t0), .o 4 (.box t1), .o 5 (.box t2), .o 6 (.alloc (.st (zc (.cons zs (.cons zs .nil))))), .o 7 (.alloc (.st (zc (.cons zs .nil))))])
  (.seq (.seq (io [ef 12 1 1 t5, el 13 false 1 t12, eb 14 .lss t13 (ci 1), em 15 t14, .og 16 15 false (.fa 1 1 t5), .og 17 15 false (.ld false 1 t16), .og 18 15 false (.bin .gtr t17 (ci 999999)), .o 19 (.pick t15 ct t18)])
  (.cond t19
  (.seq (.dops [el 20 true 3 t4, ec 21 32 [(ci 2)], .n (.sto 3 t6 t20), .n (.sto 2 t7 t21)])
  .ret)
  .skip))
  (.seq (.seq (io [el 22 true 3 t4, ef 23 1 1 t5, el 24 false 1 t23, ec 25 56 [t22, t24], eb 26 .geq t25 (ci 0)])
  (.cond t26
  (.seq (.dops [el 27 true 3 t4, ec 28 32 [(ci 151)], .n (.sto 3 t6 t27), .n (.sto 2 t7 t28)])
  .ret)
  .skip))
  (.seq (.seq (io [ef 29 1 1 t4, el 30 false 1 t29, .o 31 (.len t30), eb 32 .geq t31 (ci 32)])
  (.cond t32
  (.seq (.dops [el 33 true 3 t4, ec 34 32 [(ci 152)], .n (.sto 3 t6 t33), .n (.sto 2 t7 t34)])
  .ret)
  .skip))
  (.seq (io [el 35 true 18 t3, ef 36 1 1 t5, el 37 false 1 t36, ef 38 5 5 t5, el 39 false 1 t38, ef 40 2 2 t5, el 41 false 1 t40, ef 42 3 3 t5, el 43 false 1 t42, ef 44 4 4 t5, el 45 false 1 t44, ef 46 0 0 t4, el 47 false 1 t46, ef 48 13 13 t3, el 49 false 1 t48, .o 50 (.build (.st (zc (zc (zc (zc (zc (zc .nil))))))) [(0, 0, 1, t39), (1, 1, 1, t41), (2, 2, 1, t43), (3, 3, 1, t45), (4, 4, 1, t47), (5, 5, 1, t49)]), ec 51 57 [t35, t37, t50], .o 8 (.alloc (.st (.cons (.st (zc (.cons (.st (zc (zc (zc (zc (zc (zc .nil))))))) (.cons zs (.cons (.st (.cons (.arr 12 1 fun _ => zi) .nil)) (.cons (.st (zc (zf (zc (zc (zc (zc (zc (zc (zc (zc (zc (zc (zc (zc (zc .nil)))))))))))))))) (zc (zc (zc (.cons (.st (zc (zc (zc (zc (zc .nil)))))) (zf (zc (zc .nil))))))))))))) (.cons (.st (zc (zc (zc (zc (zc .nil)))))) (.cons zs (zc .nil)))))), .n (.sto 53 t8 t51)])
  (.seq (.seq (io [ef 52 3 52 t8, el 53 false 1 t52, eb 54 .neq t53 (ci 0)])
  (.cond t54
  (.seq (.dopss [(el 55 true 3 t4, []), (ef 56 3 52 t8, []), (el 57 false 1 t56, [6]), (.o 58 (.build (.st (zc (.cons zs .nil))) [(0, 0, 1, t57)]), []), (.n (.sto 3 t6 t55), []), (.n (.sto 2 t7 t58), [])])
  .ret)
  .skip))
  (.seq (io [em 9 (.c (.slice none 0 0))])
  (.seq (.seq (io [em 10 (ci 0)])
  (.block 0 (.loop (.seq (.seq (io [em 59 t10, ef 60 1 1 t4, el 61 false 1 t60, .o 62 (.len t61), eb 63 .lss t59 t62])
  (.cond t63
  .skip
  (.exit 0)))
  (.seq (.block 1 (.seq (.dops [ef 66 1 1 t4, el 67 false 1 t66, em 68 t10, es 69 46 t67 t68, ef 70 0 0 t69, el 71 false 1 t70, ef 72 1 1 t5, el 73 false 1 t72, eb 74 .lss t71 t73])
  (.cond t74
  (.ops [em 75 t9, ef 76 1 1 t4, el 77 false 1 t76, em 78 t10, es 79 46 t77 t78, el 80 true 46 t79, .o 81 (.bsl 46 45 (.st (zc (.cons (.st (zc (zc (zc (zc (zc (zc .nil))))))) (.cons zs (.cons (.st (.cons (.arr 12 1 fun _ => zi) .nil)) (.cons (.st (zc (zf (zc (zc (zc (zc (zc (zc (zc (zc (zc (zc (zc (zc (zc .nil)))))))))))))))) (zc (zc (zc (.cons (.st (zc (zc (zc (zc (zc .nil)))))) (zf (zc (zc .nil))))))))))))) [(0, 0, 46, t80)]), .o 82 (.app 46 384 45 t75 t81), em 9 t82])
  .skip)))
  (.ops [em 64 t10, eb 65 .add t64 (ci 1), em 10 t65]))))))
  (.seq (io [em 83 t9, ef 84 0 0 t8, el 85 true 46 t84, .o 86 (.bsl 46 45 (.st (zc (.cons (.st (zc (zc (zc (zc (zc (zc .nil))))))) (.cons zs (.cons (.st (.cons (.arr 12 1 fun _ => zi) .nil)) (.cons (.st (zc (zf (zc (zc (zc (zc (zc (zc (zc (zc (zc (zc (zc (zc (zc .nil)))))))))))))))) (zc (zc (zc (.cons (.st (zc (zc (zc (zc (zc .nil)))))) (zf (zc (zc .nil))))))))))))) [(0, 0, 46, t85)]), .o 87 (.app 46 384 45 t83 t86), em 9 t87])
  (.seq (.seq (io [em 11 (ci 0)])
  (.block 2 (.loop (.seq (.seq (io [em 88 t11, ef 89 1 1 t4, el 90 false 1 t89, .o 91 (.len t90), eb 92 .lss t88 t91])
  (.cond t92
  .skip
  (.exit 2)))
  (.seq (.block 3 (.seq (.dops [ef 95 1 1 t4, el 96 false 1 t95, em 97 t11, es 98 46 t96 t97, ef 99 0 0 t98, el 100 false 1 t99, ef 101 1 1 t5, el 102 false 1 t101, eb 103 .gtr t100 t102])
  (.cond t103
  (.ops [em 104 t9, ef 105 1 1 t4, el 106 false 1 t105, em 107 t11, es 108 46 t106 t107, el 109 true 46 t108, .o 110 (.bsl 46 45 (.st (zc (.cons (.st (zc (zc (zc (zc (zc (zc .nil))))))) (.cons zs (.cons (.st (.cons (.arr 12 1 fun _ => zi) .nil)) (.cons (.st (zc (zf (zc (zc (zc (zc (zc (zc (zc (zc (zc (zc (zc (zc (zc .nil)))))))))))))))) (zc (zc (zc (.cons (.st (zc (zc (zc (zc (zc .nil)))))) (zf (zc (zc .nil))))))))))))) [(0, 0, 46, t109)]), .o 111 (.app 46 384 45 t104 t110), em 9 t111])
  .skip)))
  (.ops [em 93 t11, eb 94 .add t93 (ci 1), em 11 t94]))))))
  (.seq (io [em 112 t9, ef 113 1 1 t4, .n (.sto 1 t113 t112)])
  (.seq (.dops [el 114 true 3 t4, ef 115 2 51 t8, el 116 false 1 t115, ec 117 58 [t114, t116], ef 118 0 0 t8, el 119 true 46 t118, ec 120 59 [t119], .o 121 (.build (.st (zc (.cons zs .nil))) [(1, 1, 1, t120)]), .n (.sto 3 t6 t117), .n (.sto 2 t7 t121)])
  .ret))))))))))))
theorem hc_r15_opened : compF Tryz.prog 122 Tryz.f29 = some (ic_r15_opened, [.c 6 true 3, .c 7 true 2]) := by kernel_rfl
theorem fn_r15_days : Tryz.prog.funcs[r15_days]? = some Tryz.f30 := Tryz.func30
theorem nt_r15_days : Tryz.f30.ntmps = 61 := Tryz.ntmps30
def ic_r15_days : IC := (.seq (io [.o 3 (.box t0), .o 4 (.box t1), .o 6 (.alloc (.st (zc (.cons zs (.cons zs .nil))))), .o 7 (.alloc (.st (zc (.cons zs .nil))))])
  (.seq (.seq (io [em 13 t2, eb 14 .lss t13 (ci 1), em 15 t14, .og 16 15 false (.mv t2), .og 17 15 false (.bin .gtr t16 (ci 60)), .o 18 (.pick t15 ct t17)])
  (.cond t18
  (.seq (.dops [el 19 true 3 t4, ec 20 32 [(ci 2)], .n (.sto 3 t6 t19), .n (.sto 2 t7 t20)])
  .ret)
  .skip))
  (.seq (.seq (io [ef 21 0 0 t4, el 22 false 1 t21, em 23 t2, eb 24 .sub (ci 3652059) t23, eb 25 .gtr t22 t24])
  (.cond t25
  (.seq (.dops [el 26 true 3 t4, ec 27 32 [(ci 141)], .n (.sto 3 t6 t26), .n (.sto 2 t7 t27)])
  .ret)
  .skip))
  (.seq (io [el 28 true 3 t4, .o 8 (.alloc (.st (zc (.cons zs (.cons zs .nil))))), .n (.sto 3 t8 t28)])
  (.seq (.seq (io [em 9 (ci 0)])
  (.block 0 (.loop (.seq (.seq (io [em 29 t9, em 30 t2, eb 31 .lss t29 t30])
  (.cond t31
  .skip
  (.exit 0)))
  (.seq (.block 1 (.seq (io [el 35 true 18 t3, el 36 true 3 t8, ec 37 60 [t35, t36], em 34 t37, ex 38 0 t34, ex 39 1 t34, .o 10 (.alloc (.st (zc (.cons zs (.cons zs .nil))))), .n (.sto 3 t10 t38), em 11 t39])
  (.seq (.seq (io [em 40 t11, eb 41 .neq t40 (ci 0)])
  (.cond t41
  (.seq (io [el 42 true 3 t4, em 43 t11, .o 44 (.build (.st (zc (.cons zs .nil))) [(0, 0, 1, t43)]), .n (.sto 3 t6 t42), .n (.sto 2 t7 t44)])
  .ret)
  .skip))
  (.ops [el 45 true 3 t10, .n (.sto 3 t8 t45)]))))
  (.ops [em 32 t9, eb 33 .add t32 (ci 1), em 9 t33]))))))
  (.seq (io [em 12 (.c (.slice none 0 0))])
  (.seq (io [em 46 t12, ef 47 0 0 t8, el 48 false 1 t47, ef 49 2 2 t8, el 50 false 1 t49, .o 51 (.len t50), ef 52 2 2 t4, el 53 false 1 t52, .o 54 (.len t53), eb 55 .sub t51 t54, .o 56 (.bsl 1 2 zi [(0, 0, 1, t48), (1, 1, 1, t55)]), .o 57 (.app 1 8 2 t46 t56), em 12 t57])
  (.seq (io [el 58 true 3 t8, em 59 t12, .o 60 (.build (.st (zc (.cons zs .nil))) [(1, 1, 1, t59)]), .n (.sto 3 t6 t58), .n (.sto 2 t7 t60)])
  .ret))))))))
theorem hc_r15_days : compF Tryz.prog 61 Tryz.f30 = some (ic_r15_days, [.c 6 true 3, .c 7 true 2]) := by kernel_rfl
theorem fn_r15_onLoan : Tryz.prog.funcs[r15_onLoan]? = some Tryz.f31 := Tryz.func31
theorem nt_r15_onLoan : Tryz.f31.ntmps = 84 := Tryz.ntmps31
def ic_r15_onLoan : IC := (.seq (io [.o 3 (.box t0), .o 4 (.box t1), .o 5 (.box t2), .o 6 (.alloc (.st (zc (.cons zs (.cons zs .nil))))), .o 7 (.alloc (.st (zc (.cons zs .nil))))])
  (.seq (io [el 10 true 3 t4, ef 11 1 1 t5, el 12 false 1 t11, ec 13 56 [t10, t12], em 8 t13])
  (.seq (.seq (io [em 14 t8, eb 15 .lss t14 (ci 0)])
  (.cond t15
  (.seq (.dops [el 16 true 3 t4, ec 17 32 [(ci 150)], .n (.sto 3 t6 t16), .n (.sto 2 t7 t17)])
  .ret)
  .skip))
  (.seq (.seq (io [ef 18 0 0 t5, el 19 false 1 t18, eb 20 .eql t19 (ci 2), em 21 t20, .og 22 21 true (.fa 4 4 t5), .og 23 21 true (.ld false 1 t22), .og 24 21 true (.bin .lss t23 (ci 0)), .o 25 (.pick t21 t24 cf)])
  (.cond t25
  (.seq (.dops [el 26 true 3 t4, ec 27 32 [(ci 2)], .n (.sto 3 t6 t26), .n (.sto 2 t7 t27)])
  .ret)
  .skip))
  (.seq (.seq (.dops [ef 28 0 0 t5, el 29 false 1 t28, eb 30 .eql t29 (ci 2), em 31 t30, .og 32 31 true (.fa 4 4 t5), .og 33 31 true (.ld false 1 t32), .og 34 31 true (.bin .gtr t33 (ci 0)), .o 35 (.pick t31 t34 cf), em 36 t35, .og 37 36 true (.fa 4 4 t5), .og 38 36 true (.ld false 1 t37), .og 39 36 true (.fa 1 1 t4), .og 40 36 true (.ld false 1 t39), .og 41 36 true (.mv t8), .og 42 36 true (.ixs 46 t40 t41), .og 43 36 true (.fa 11 45 t42), .og 44 36 true (.ld false 1 t43), .og 45 36 true (.bin .leq t38 t44), .o 46 (.pick t36 t45 cf)])
  (.cond t46
  (.seq (.dops [el 47 true 3 t4, ec 48 32 [(ci 151)], .n (.sto 3 t6 t47), .n (.sto 2 t7 t48)])
  .ret)
  .skip))
  (.seq (.dops [el 49 true 18 t3, ef 50 1 1 t4, el 51 false 1 t50, em 52 t8, es 53 46 t51 t52, el 54 true 46 t53, el 55 true 7 t5, ec 56 61 [t49, t54, t55], .o 9 (.alloc (.st (.cons (.st (zc (.cons (.st (zc (zc (zc (zc (zc (zc .nil))))))) (.cons zs (.cons (.st (.cons (.arr 12 1 fun _ => zi) .nil)) (.cons (.st (zc (zf (zc (zc (zc (zc (zc (zc (zc (zc (zc (zc (zc (zc (zc .nil)))))))))))))))) (zc (zc (zc (.cons (.st (zc (zc (zc (zc (zc .nil)))))) (zf (zc (zc .nil))))))))))))) (.cons (.st (zc (zc (zc (zc (zc .nil)))))) (.cons zs (zc .nil)))))), .n (.sto 53 t9 t56)])
  (.seq (.seq (io [ef 57 3 52 t9, el 58 false 1 t57, eb 59 .neq t58 (ci 0)])
  (.cond t59
  (.seq (.dopss [(el 60 true 3 t4, []), (ef 61 3 52 t9, []), (el 62 false 1 t61, [6]), (.o 63 (.build (.st (zc (.cons zs .nil))) [(0, 0, 1, t62)]), []), (.n (.sto 3 t6 t60), []), (.n (.sto 2 t7 t63), [])])
  .ret)
  .skip))
  (.seq (.seq (io [ef 64 0 0 t5, el 65 false 1 t64, eb 66 .eql t65 (ci 2), em 67 t66, .og 68 67 true (.fa 4 4 t5), .og 69 67 true (.ld false 1 t68), .og 70 67 true (.bin .gtr t69 (ci 0)), .o 71 (.pick t67 t70 cf)])
  (.cond t71
  (.ops [ef 72 4 4 t5, el 73 false 1 t72, ef 74 0 0 t9, ef 75 11 45 t74, .n (.sto 1 t75 t73)])
  .skip))
  (.seq (.dops [el 76 true 3 t4, em 77 t8, el 78 true 53 t9, ec 79 62 [t76, t77, t78], el 80 true 7 t5, el 81 true 53 t9, ec 82 63 [t80, t81], .o 83 (.build (.st (zc (.cons zs .nil))) [(1, 1, 1, t82)]), .n (.sto 3 t6 t79), .n (.sto 2 t7 t83)])
  .ret)))))))))
theorem hc_r15_onLoan : compF Tryz.prog 84 Tryz.f31 = some (ic_r15_onLoan, [.c 6 true 3, .c 7 true 2]) := by kernel_rfl
theorem fn_r15_refusal : Tryz.prog.funcs[r15_refusal]? = some Tryz.f32 := Tryz.func32
theorem nt_r15_refusal : Tryz.f32.ntmps = 5 := Tryz.ntmps32
def ic_r15_refusal : IC := (.seq (io [.o 2 (.alloc (.st (zc (.cons zs .nil))))])
  (.seq (io [em 3 t0, .o 4 (.build (.st (zc (.cons zs .nil))) [(0, 0, 1, t3)]), .n (.sto 2 t2 t4)])
  .ret))
theorem hc_r15_refusal : compF Tryz.prog 5 Tryz.f32 = some (ic_r15_refusal, [.c 2 true 2]) := by kernel_rfl
theorem fn_loan_Look_c1 : Tryz.prog.funcs[loan_Look_c1]? = some Tryz.f33 := Tryz.func33
theorem fn_policy_Check : Tryz.prog.funcs[policy_Check]? = some Tryz.f34 := Tryz.func34
theorem nt_policy_Check : Tryz.f34.ntmps = 21 := Tryz.ntmps34
def ic_policy_Check : IC := (.seq (io [.o 1 (.box t0), em 2 (ci 0), em 3 (ci 0)])
  (.seq (.seq (io [ec 6 64 [], .o 7 (.len t6), em 8 (ci 0)])
  (.block 0 (.loop (.seq (io [eb 9 .lss t8 t7])
  (.seq (.cond t9
  .skip
  (.exit 0))
  (.seq (.block 1 (.seq (io [em 10 t8, es 11 1 t6 t8, el 12 true 1 t11, .o 5 (.alloc (.st (.cons (.val (.nilFunc)) .nil))), em 4 t10, .n (.sto 1 t5 t12)])
  (.seq (io [ef 13 0 0 t5, el 14 false 1 t13, el 15 true 18 t1, .o 16 (.calv t14 [t15]), .o 17 (.un .not t16)])
  (.cond t17
  (.seq (io [em 18 t4, eb 19 .add t18 (ci 1), em 2 (ci 120), em 3 t19])
  .ret)
  .skip))))
  (.ops [eb 20 .add t8 (ci 1), em 8 t20])))))))
  (.seq (io [em 2 (ci 0), em 3 (ci 0)])
  .ret)))
theorem hc_policy_Check : compF Tryz.prog 21 Tryz.f34 = some (ic_policy_Check, [.t 2, .t 3]) := by kernel_rfl
theorem fn_loan_give : Tryz.prog.funcs[loan_give]? = some Tryz.f35 := Tryz.func35
theorem nt_loan_give : Tryz.f35.ntmps = 7 := Tryz.ntmps35
def ic_loan_give : IC := (.seq (io [em 2 t0, eb 3 .neq t2 (ci 0)])
  (.cond t3
  (.ops [em 4 t0, .o 5 (.build (.st (zc .nil)) [(0, 0, 1, t4)]), .o 6 (.dead), .n (.dead)])
  .skip))
theorem hc_loan_give : compF Tryz.prog 7 Tryz.f35 = some (ic_loan_give, []) := by kernel_rfl
theorem fn_loan_owed : Tryz.prog.funcs[loan_owed]? = some Tryz.f36 := Tryz.func36
theorem nt_loan_owed : Tryz.f36.ntmps = 10 := Tryz.ntmps36
def ic_loan_owed : IC := (.seq (io [.o 1 (.box t0), .o 2 (.alloc (.st (zc (zc (zc .nil)))))])
  (.seq (.dops [el 3 true 46 t1, ec 4 40 [t3, (ci 3)], el 5 true 46 t1, ec 6 40 [t5, (ci 2)], el 7 true 46 t1, ec 8 40 [t7, (ci 1)], .o 9 (.build (.st (zc (zc (zc .nil)))) [(0, 0, 1, t4), (1, 1, 1, t6), (2, 2, 1, t8)]), .n (.sto 3 t2 t9)])
  .ret))
theorem hc_loan_owed : compF Tryz.prog 10 Tryz.f36 = some (ic_loan_owed, [.c 2 true 3]) := by kernel_rfl
theorem fn_loan_position : Tryz.prog.funcs[loan_position]? = some Tryz.f37 := Tryz.func37
theorem nt_loan_position : Tryz.f37.ntmps = 14 := Tryz.ntmps37
def ic_loan_position : IC := (.seq (io [.o 1 (.box t0), .o 2 (.alloc (.st (zc (zc .nil))))])
  (.seq (io [el 4 true 46 t1, ec 5 36 [t4], .o 3 (.alloc (.st (zc (zc (zc .nil))))), .n (.sto 3 t3 t5)])
  (.seq (io [ef 6 7 37 t1, el 7 false 1 t6, ef 8 1 1 t3, el 9 false 1 t8, ef 10 2 2 t3, el 11 false 1 t10, eb 12 .add t9 t11, .o 13 (.build (.st (zc (zc .nil))) [(0, 0, 1, t7), (1, 1, 1, t12)]), .n (.sto 2 t2 t13)])
  .ret)))
theorem hc_loan_position : compF Tryz.prog 14 Tryz.f37 = some (ic_loan_position, [.c 2 true 2]) := by kernel_rfl
theorem fn_aging_Days : Tryz.prog.funcs[aging_Days]? = some Tryz.f38 := Tryz.func38
theorem nt_aging_Days : Tryz.f38.ntmps = 23 := Tryz.ntmps38
def ic_aging_Days : IC := (.seq (io [.o 4 (.box t1), em 6 (ci 0)])
  (.seq (io [em 10 t0, el 11 true 2 t4, ec 12 42 [t10, t11], em 9 t12, ex 13 0 t9, ex 14 1 t9, em 7 t13, em 8 t14])
  (.seq (.seq (io [em 15 t8, .o 16 (.un .not t15)])
  (.cond t16
  (.seq (io [em 6 (ci 0)])
  .ret)
  .skip))
  (.seq (io [em 17 t0, em 18 t7, es 19 4 t17 t18, el 20 true 4 t19, em 21 t2, ec 22 65 [t20, t21], em 6 t22])
  .ret))))
theorem hc_aging_Days : compF Tryz.prog 23 Tryz.f38 = some (ic_aging_Days, [.t 6]) := by kernel_rfl
theorem fn_aging_PastDue : Tryz.prog.funcs[aging_PastDue]? = some Tryz.f39 := Tryz.func39
theorem nt_aging_PastDue : Tryz.f39.ntmps = 66 := Tryz.ntmps39
def ic_aging_PastDue : IC := (.seq (io [.o 4 (.box t1), em 6 (ci 0)])
  (.seq (io [em 13 t0, el 14 true 2 t4, ec 15 42 [t13, t14], em 12 t15, ex 16 0 t12, ex 17 1 t12, em 7 t16, em 8 t17])
  (.seq (.seq (io [em 18 t8, .o 19 (.un .not t18), em 20 t19, .og 21 20 false (.mv t0), .og 22 20 false (.mv t7), .og 23 20 false (.ixs 4 t21 t22), .og 24 20 false (.fa 0 0 t23), .og 25 20 false (.ld false 1 t24), .og 26 20 false (.mv t2), .og 27 20 false (.bin .geq t25 t26), .o 28 (.pick t20 ct t27)])
  (.cond t28
  (.seq (io [em 6 (ci 0)])
  .ret)
  .skip))
  (.seq (.seq (io [em 29 t0, em 30 t0, .o 31 (.len t30), eb 32 .sub t31 (ci 1), es 33 4 t29 t32, ef 34 0 0 t33, el 35 false 1 t34, em 36 t2, eb 37 .lss t35 t36])
  (.cond t37
  (.seq (io [ef 38 1 1 t4, el 39 false 1 t38, em 6 t39])
  .ret)
  .skip))
  (.seq (io [ef 40 0 0 t4, el 41 false 1 t40, .o 42 (.mm true t41 (ci 0)), .o 43 (.un .neg t42), em 9 t43])
  (.seq (.seq (io [em 44 t0, .o 45 (.len t44), em 46 (ci 0)])
  (.block 0 (.loop (.seq (io [eb 47 .lss t46 t45])
  (.seq (.cond t47
  .skip
  (.exit 0))
  (.seq (.block 1 (.seq (io [es 48 4 t44 t46, el 49 true 4 t48, .o 11 (.alloc (.st (zc (zc (zc (zf .nil)))))), .n (.sto 4 t11 t49)])
  (.seq (.seq (io [ef 50 0 0 t11, el 51 false 1 t50, em 52 t2, eb 53 .geq t51 t52])
  (.cond t53
  (.exit 0)
  .skip))
  (.ops [em 54 t9, ef 55 1 1 t11, el 56 false 1 t55, ef 57 2 2 t11, el 58 false 1 t57, eb 59 .add t56 t58, eb 60 .add t54 t59, em 9 t60]))))
  (.ops [eb 61 .add t46 (ci 1), em 46 t61])))))))
  (.seq (io [em 62 t9, ef 63 1 1 t4, el 64 false 1 t63, .o 65 (.mm false t62 t64), em 6 t65])
  .ret)))))))
theorem hc_aging_PastDue : compF Tryz.prog 66 Tryz.f39 = some (ic_aging_PastDue, [.t 6]) := by kernel_rfl
theorem fn_loan_balance : Tryz.prog.funcs[loan_balance]? = some Tryz.f40 := Tryz.func40
theorem nt_loan_balance : Tryz.f40.ntmps = 17 := Tryz.ntmps40
def ic_loan_balance : IC := (.seq (io [.o 2 (.box t0), em 4 (ci 0)])
  (.seq (io [ef 8 3 8 t2, el 9 true 12 t8, em 10 t1, ec 11 66 [t9, t10], em 7 t11, ex 12 0 t7, ex 13 1 t7, em 5 t12, em 6 t13])
  (.seq (io [em 14 t6, ec 15 35 [t14]])
  (.seq (io [em 16 t5, em 4 t16])
  .ret))))
theorem hc_loan_balance : compF Tryz.prog 17 Tryz.f40 = some (ic_loan_balance, [.t 4]) := by kernel_rfl
theorem fn_aging_Bucket : Tryz.prog.funcs[aging_Bucket]? = some Tryz.f41 := Tryz.func41
theorem nt_aging_Bucket : Tryz.f41.ntmps = 15 := Tryz.ntmps41
def ic_aging_Bucket : IC := (.seq (io [em 2 (ci 0)])
  (.seq (.block 0 (.seq (io [em 4 t0, eb 5 .geq t4 (ci 90), em 3 t5])
  (.cond t3
  (.seq (io [em 2 (ci 4)])
  .ret)
  (.seq (io [em 7 t0, eb 8 .geq t7 (ci 60), em 6 t8])
  (.cond t6
  (.seq (io [em 2 (ci 3)])
  .ret)
  (.seq (io [em 10 t0, eb 11 .geq t10 (ci 30), em 9 t11])
  (.cond t9
  (.seq (io [em 2 (ci 2)])
  .ret)
  (.seq (io [em 13 t0, eb 14 .geq t13 (ci 1), em 12 t14])
  (.cond t12
  (.seq (io [em 2 (ci 1)])
  .ret)
  .skip)))))))))
  (.seq (io [em 2 (ci 0)])
  .ret)))
theorem hc_aging_Bucket : compF Tryz.prog 15 Tryz.f41 = some (ic_aging_Bucket, [.t 2]) := by kernel_rfl
theorem fn_aging_Oldest : Tryz.prog.funcs[aging_Oldest]? = some Tryz.f42 := Tryz.func42
theorem nt_aging_Oldest : Tryz.f42.ntmps = 18 := Tryz.ntmps42
def ic_aging_Oldest : IC := (.seq (io [.o 3 (.box t1), em 4 (ci 0), em 5 cf])
  (.seq (.seq (io [em 7 t0, ec 8 67 [t7], .o 9 (.un .not t8)])
  (.cond t9
  (.seq (io [em 4 (ci 0), em 5 cf])
  .ret)
  .skip))
  (.seq (io [em 10 t0, el 11 true 2 t3, ec 12 68 [t10, t11], em 6 t12])
  (.seq (.seq (io [em 13 t6, em 14 t0, .o 15 (.len t14), eb 16 .eql t13 t15])
  (.cond t16
  (.seq (io [em 4 (ci 0), em 5 cf])
  .ret)
  .skip))
  (.seq (io [em 17 t6, em 4 t17, em 5 ct])
  .ret)))))
theorem hc_aging_Oldest : compF Tryz.prog 18 Tryz.f42 = some (ic_aging_Oldest, [.t 4, .t 5]) := by kernel_rfl
theorem fn_r14_days : Tryz.prog.funcs[r14_days]? = some Tryz.f43 := Tryz.func43
theorem nt_r14_days : Tryz.f43.ntmps = 10 := Tryz.ntmps43
def ic_r14_days : IC := (.seq (io [.o 1 (.box t0), em 2 (ci 0)])
  (.seq (.dops [ef 3 2 7 t1, el 4 false 1 t3, el 5 true 46 t1, ec 6 48 [t5], ef 7 5 35 t1, el 8 false 1 t7, ec 9 69 [t4, t6, t8], em 2 t9])
  .ret))
theorem hc_r14_days : compF Tryz.prog 10 Tryz.f43 = some (ic_r14_days, [.t 2]) := by kernel_rfl
theorem fn_r14_pastDue : Tryz.prog.funcs[r14_pastDue]? = some Tryz.f44 := Tryz.func44
theorem nt_r14_pastDue : Tryz.f44.ntmps = 10 := Tryz.ntmps44
def ic_r14_pastDue : IC := (.seq (io [.o 1 (.box t0), em 2 (ci 0)])
  (.seq (.dops [ef 3 2 7 t1, el 4 false 1 t3, el 5 true 46 t1, ec 6 48 [t5], ef 7 5 35 t1, el 8 false 1 t7, ec 9 70 [t4, t6, t8], em 2 t9])
  .ret))
theorem hc_r14_pastDue : compF Tryz.prog 10 Tryz.f44 = some (ic_r14_pastDue, [.t 2]) := by kernel_rfl
theorem fn_r10_Bucket : Tryz.prog.funcs[r10_Bucket]? = some Tryz.f45 := Tryz.func45
theorem nt_r10_Bucket : Tryz.f45.ntmps = 17 := Tryz.ntmps45
def ic_r10_Bucket : IC := (.seq (io [em 2 (ci 0)])
  (.seq (io [em 3 (ci 0)])
  (.seq (.seq (io [.o 6 (.build (.arr 4 1 fun _ => zi) [(0, 0, 1, (ci 1)), (1, 1, 1, (ci 30)), (2, 2, 1, (ci 60)), (3, 3, 1, (ci 90))]), em 7 (ci 0)])
  (.block 0 (.loop (.seq (io [eb 8 .lss t7 (ci 4)])
  (.seq (.cond t8
  .skip
  (.exit 0))
  (.seq (.block 1 (.seq (io [.o 9 (.ix false 4 1 t6 t7), em 5 t9])
  (.seq (io [em 10 t0, em 11 t5, eb 12 .geq t10 t11])
  (.cond t12
  (.ops [em 13 t3, eb 14 .add t13 (ci 1), em 3 t14])
  .skip))))
  (.ops [eb 15 .add t7 (ci 1), em 7 t15])))))))
  (.seq (io [em 16 t3, em 2 t16])
  .ret))))
theorem hc_r10_Bucket : compF Tryz.prog 17 Tryz.f45 = some (ic_r10_Bucket, [.t 2]) := by kernel_rfl
theorem fn_r14_of : Tryz.prog.funcs[r14_of]? = some Tryz.f46 := Tryz.func46
theorem nt_r14_of : Tryz.f46.ntmps = 15 := Tryz.ntmps46
def ic_r14_of : IC := (.seq (io [.o 2 (.box t0), em 4 (ci 0)])
  (.seq (io [ef 8 3 8 t2, el 9 true 12 t8, em 10 t1, ec 11 71 [t9, t10], em 7 t11, ex 12 0 t7, ex 13 1 t7, em 5 t12, em 6 t13])
  (.seq (io [em 14 t5, em 4 t14])
  .ret)))
theorem hc_r14_of : compF Tryz.prog 15 Tryz.f46 = some (ic_r14_of, [.t 4]) := by kernel_rfl
theorem fn_r10_Oldest : Tryz.prog.funcs[r10_Oldest]? = some Tryz.f47 := Tryz.func47
theorem nt_r10_Oldest : Tryz.f47.ntmps = 18 := Tryz.ntmps47
def ic_r10_Oldest : IC := (.seq (io [.o 3 (.box t1), em 4 (ci 0), em 5 cf])
  (.seq (io [em 8 t0, ec 9 72 [t8], em 6 t9])
  (.seq (io [em 10 t6, el 11 true 2 t3, ec 12 73 [t10, t11], em 7 t12])
  (.seq (.seq (io [em 13 t7, em 14 t6, .o 15 (.len t14), eb 16 .geq t13 t15])
  (.cond t16
  (.seq (io [em 4 (ci 0), em 5 cf])
  .ret)
  .skip))
  (.seq (io [em 17 t7, em 4 t17, em 5 ct])
  .ret)))))
theorem hc_r10_Oldest : compF Tryz.prog 18 Tryz.f47 = some (ic_r10_Oldest, [.t 4, .t 5]) := by kernel_rfl
theorem fn_r14_Position : Tryz.prog.funcs[r14_Position]? = some Tryz.f48 := Tryz.func48
theorem nt_r14_Position : Tryz.f48.ntmps = 11 := Tryz.ntmps48
def ic_r14_Position : IC := (.seq (io [.o 1 (.box t0), .o 2 (.alloc (.st (zc (zc .nil))))])
  (.seq (.dops [ef 3 7 37 t1, el 4 false 1 t3, el 5 true 46 t1, ec 6 46 [t5, (ci 2)], el 7 true 46 t1, ec 8 46 [t7, (ci 1)], eb 9 .add t6 t8, .o 10 (.build (.st (zc (zc .nil))) [(0, 0, 1, t4), (1, 1, 1, t9)]), .n (.sto 2 t2 t10)])
  .ret))
theorem hc_r14_Position : compF Tryz.prog 11 Tryz.f48 = some (ic_r14_Position, [.c 2 true 2]) := by kernel_rfl
theorem fn_money_MulDiv : Tryz.prog.funcs[money_MulDiv]? = some Tryz.f49 := Tryz.func49
theorem nt_money_MulDiv : Tryz.f49.ntmps = 72 := Tryz.ntmps49
def ic_money_MulDiv : IC := (.seq (io [em 6 (ci 0), em 7 cf])
  (.seq (io [em 14 t2, ec 15 74 [t14], em 8 t15])
  (.seq (io [em 17 t0, ec 18 74 [t17], em 19 t1, ec 20 74 [t19], ec 21 75 [t18, t20], em 16 t21, ex 22 0 t16, ex 23 1 t16, em 9 t22, em 10 t23])
  (.seq (.seq (io [em 24 t8, eb 25 .eql t24 (.c (.int .u64 0)), em 26 t25, .og 27 26 false (.mv t9), .og 28 26 false (.mv t8), .og 29 26 false (.bin .geq t27 t28), .o 30 (.pick t26 ct t29)])
  (.cond t30
  (.seq (io [em 6 (ci 0), em 7 cf])
  .ret)
  .skip))
  (.seq (io [em 32 t9, em 33 t10, em 34 t8, ec 35 76 [t32, t33, t34], em 31 t35, ex 36 0 t31, ex 37 1 t31, em 11 t36, em 12 t37])
  (.seq (.seq (io [em 38 t12, em 39 t8, em 40 t12, eb 41 .sub t39 t40, eb 42 .gtr t38 t41, em 43 t42, .og 44 43 false (.mv t12), .og 45 43 false (.mv t8), .og 46 43 false (.mv t12), .og 47 43 false (.bin .sub t45 t46), .og 48 43 false (.bin .eql t44 t47), .og 49 43 false (.mv t48), .og 50 49 true (.mv t11), .og 51 49 true (.bin .and t50 (.c (.int .u64 1))), .og 52 49 true (.bin .eql t51 (.c (.int .u64 1))), .og 53 43 false (.pick t49 t52 cf), .o 54 (.pick t43 ct t53)])
  (.cond t54
  (.seq (io [em 55 t11, eb 56 .add t55 (.c (.int .u64 1)), em 11 t56])
  (.seq (io [em 57 t11, eb 58 .eql t57 (.c (.int .u64 0))])
  (.cond t58
  (.seq (io [em 6 (ci 0), em 7 cf])
  .ret)
  .skip)))
  .skip))
  (.seq (io [em 59 t0, eb 60 .lss t59 (ci 0), em 61 t1, eb 62 .lss t61 (ci 0), .o 63 (.eqv true t60 t62), em 13 t63])
  (.seq (io [em 64 t13, em 65 t2, eb 66 .lss t65 (ci 0), .o 67 (.eqv true t64 t66), em 68 t11, ec 69 77 [t67, t68], ex 70 0 t69, ex 71 1 t69, em 6 t70, em 7 t71])
  .ret))))))))
theorem hc_money_MulDiv : compF Tryz.prog 72 Tryz.f49 = some (ic_money_MulDiv, [.t 6, .t 7]) := by kernel_rfl
theorem fn_r1_high : Tryz.prog.funcs[r1_high]? = some Tryz.f50 := Tryz.func50
theorem nt_r1_high : Tryz.f50.ntmps = 5 := Tryz.ntmps50
def ic_r1_high : IC := (.seq (io [em 2 (ci 0)])
  (.seq (io [em 3 t0, eb 4 .shr t3 (.c (.int .u64 32)), em 2 t4])
  .ret))
theorem hc_r1_high : compF Tryz.prog 5 Tryz.f50 = some (ic_r1_high, [.t 2]) := by kernel_rfl
theorem fn_r1_lowOf : Tryz.prog.funcs[r1_lowOf]? = some Tryz.f51 := Tryz.func51
theorem nt_r1_lowOf : Tryz.f51.ntmps = 8 := Tryz.ntmps51
def ic_r1_lowOf : IC := (.seq (io [em 2 (ci 0)])
  (.seq (io [em 3 t0, em 4 t0, ec 5 50 [t4], eb 6 .mul t5 (ci 4294967296), eb 7 .sub t3 t6, em 2 t7])
  .ret))
theorem hc_r1_lowOf : compF Tryz.prog 8 Tryz.f51 = some (ic_r1_lowOf, [.t 2]) := by kernel_rfl
theorem fn_r1_joined : Tryz.prog.funcs[r1_joined]? = some Tryz.f52 := Tryz.func52
theorem nt_r1_joined : Tryz.f52.ntmps = 26 := Tryz.ntmps52
def ic_r1_joined : IC := (.seq (io [em 4 (ci 0), em 5 cf])
  (.seq (io [em 7 t1, eb 8 .shr t7 (.c (.int .u64 32)), em 6 t8])
  (.seq (io [em 9 t0, em 10 t6, eb 11 .add t9 t10, em 0 t11])
  (.seq (io [em 12 t1, em 13 t6, eb 14 .mul t13 (ci 4294967296), eb 15 .sub t12 t14, em 1 t15])
  (.seq (.seq (io [em 16 t0, eb 17 .lss t16 (ci (-2147483648)), em 18 t17, .og 19 18 false (.mv t0), .og 20 18 false (.bin .gtr t19 (ci 2147483647)), .o 21 (.pick t18 ct t20)])
  (.cond t21
  (.seq (io [em 4 (ci 0), em 5 cf])
  .ret)
  .skip))
  (.seq (io [em 22 t0, eb 23 .mul t22 (ci 4294967296), em 24 t1, eb 25 .add t23 t24, em 4 t25, em 5 ct])
  .ret))))))
theorem hc_r1_joined : compF Tryz.prog 26 Tryz.f52 = some (ic_r1_joined, [.t 4, .t 5]) := by kernel_rfl
theorem fn_r1_MulDiv : Tryz.prog.funcs[r1_MulDiv]? = some Tryz.f53 := Tryz.func53
theorem nt_r1_MulDiv : Tryz.f53.ntmps = 61 := Tryz.ntmps53
def ic_r1_MulDiv : IC := (.seq (io [em 6 (ci 0), em 7 cf])
  (.seq (.seq (io [em 13 t2, eb 14 .eql t13 (ci 0)])
  (.cond t14
  (.seq (io [em 6 (ci 0), em 7 cf])
  .ret)
  .skip))
  (.seq (io [em 15 t2, ec 16 78 [t15], em 8 t16])
  (.seq (io [em 18 t0, ec 19 78 [t18], ec 20 81 [t19], em 21 t1, ec 22 78 [t21], ec 23 81 [t22], ec 24 80 [t20, t23], em 25 t8, ec 26 79 [t24, t25], em 17 t26, ex 27 0 t17, ex 28 1 t17, em 9 t27, em 10 t28])
  (.seq (io [em 29 t8, em 30 t10, eb 31 .sub t29 t30, em 11 t31])
  (.seq (.seq (io [em 32 t10, em 33 t11, eb 34 .gtr t32 t33, em 35 t34, .og 36 35 false (.mv t10), .og 37 35 false (.mv t11), .og 38 35 false (.bin .eql t36 t37), .og 39 35 false (.mv t38), .og 40 39 true (.mv t9), .og 41 39 true (.ixs 1 t40 (ci 0)), .og 42 39 true (.ld false 1 t41), .og 43 39 true (.bin .eql t42 (ci 1)), .og 44 35 false (.pick t39 t43 cf), .o 45 (.pick t35 ct t44)])
  (.cond t45
  (.ops [em 46 t9, ec 47 82 [t46], em 9 t47])
  .skip))
  (.seq (io [em 48 t0, eb 49 .lss t48 (ci 0), em 50 t1, eb 51 .lss t50 (ci 0), .o 52 (.eqv true t49 t51), em 12 t52])
  (.seq (io [em 53 t12, em 54 t2, eb 55 .lss t54 (ci 0), .o 56 (.eqv true t53 t55), em 57 t9, ec 58 83 [t56, t57], ex 59 0 t58, ex 60 1 t58, em 6 t59, em 7 t60])
  .ret))))))))
theorem hc_r1_MulDiv : compF Tryz.prog 61 Tryz.f53 = some (ic_r1_MulDiv, [.t 6, .t 7]) := by kernel_rfl
theorem fn_r12_in : Tryz.prog.funcs[r12_in]? = some Tryz.f54 := Tryz.func54
theorem nt_r12_in : Tryz.f54.ntmps = 15 := Tryz.ntmps54
def ic_r12_in : IC := (.seq (io [em 6 cf])
  (.seq (io [em 7 t0, em 8 t1, eb 9 .geq t7 t8, em 10 t9, .og 11 10 true (.mv t0), .og 12 10 true (.mv t2), .og 13 10 true (.bin .leq t11 t12), .o 14 (.pick t10 t13 cf), em 6 t14])
  .ret))
theorem hc_r12_in : compF Tryz.prog 15 Tryz.f54 = some (ic_r12_in, [.t 6]) := by kernel_rfl
theorem fn_r12_holidays : Tryz.prog.funcs[r12_holidays]? = some Tryz.f55 := Tryz.func55
theorem nt_r12_holidays : Tryz.f55.ntmps = 41 := Tryz.ntmps55
def ic_r12_holidays : IC := (.seq (io [em 2 cf])
  (.seq (.seq (io [em 4 t0, .o 5 (.len t4), eb 6 .gtr t5 (ci 64)])
  (.cond t6
  (.seq (io [em 2 cf])
  .ret)
  .skip))
  (.seq (.seq (io [em 3 (ci 0)])
  (.block 0 (.loop (.seq (.seq (io [em 7 t3, em 8 t0, .o 9 (.len t8), eb 10 .lss t7 t9])
  (.cond t10
  .skip
  (.exit 0)))
  (.seq (.block 1 (.seq (.dops [em 13 t0, em 14 t3, es 15 1 t13 t14, el 16 false 1 t15, eb 17 .lss t16 (ci 1), em 18 t17, .og 19 18 false (.mv t0), .og 20 18 false (.mv t3), .og 21 18 false (.ixs 1 t19 t20), .og 22 18 false (.ld false 1 t21), .og 23 18 false (.bin .gtr t22 (ci 3652059)), .o 24 (.pick t18 ct t23), em 25 t24, .og 26 25 false (.mv t3), .og 27 25 false (.bin .gtr t26 (ci 0)), .og 28 25 false (.mv t27), .og 29 28 true (.mv t0), .og 30 28 true (.mv t3), .og 31 28 true (.ixs 1 t29 t30), .og 32 28 true (.ld false 1 t31), .og 33 28 true (.mv t0), .og 34 28 true (.mv t3), .og 35 28 true (.bin .sub t34 (ci 1)), .og 36 28 true (.ixs 1 t33 t35), .og 37 28 true (.ld false 1 t36), .og 38 28 true (.bin .leq t32 t37), .og 39 25 false (.pick t28 t38 cf), .o 40 (.pick t25 ct t39)])
  (.cond t40
  (.seq (io [em 2 cf])
  .ret)
  .skip)))
  (.ops [em 11 t3, eb 12 .add t11 (ci 1), em 3 t12]))))))
  (.seq (io [em 2 ct])
  .ret))))
theorem hc_r12_holidays : compF Tryz.prog 41 Tryz.f55 = some (ic_r12_holidays, [.t 2]) := by kernel_rfl
theorem fn_r15_place : Tryz.prog.funcs[r15_place]? = some Tryz.f56 := Tryz.func56
theorem nt_r15_place : Tryz.f56.ntmps = 22 := Tryz.ntmps56
def ic_r15_place : IC := (.seq (io [.o 2 (.box t0), em 4 (ci 0)])
  (.seq (.seq (io [em 5 (ci 0)])
  (.block 0 (.loop (.seq (.seq (io [em 6 t5, ef 7 1 1 t2, el 8 false 1 t7, .o 9 (.len t8), eb 10 .lss t6 t9])
  (.cond t10
  .skip
  (.exit 0)))
  (.seq (.block 1 (.seq (io [ef 13 1 1 t2, el 14 false 1 t13, em 15 t5, es 16 46 t14 t15, ef 17 0 0 t16, el 18 false 1 t17, em 19 t1, eb 20 .eql t18 t19])
  (.cond t20
  (.seq (io [em 21 t5, em 4 t21])
  .ret)
  .skip)))
  (.ops [em 11 t5, eb 12 .add t11 (ci 1), em 5 t12]))))))
  (.seq (io [em 4 (ci (-1))])
  .ret)))
theorem hc_r15_place : compF Tryz.prog 22 Tryz.f56 = some (ic_r15_place, [.t 4]) := by kernel_rfl
theorem fn_r14_Open : Tryz.prog.funcs[r14_Open]? = some Tryz.f57 := Tryz.func57
theorem nt_r14_Open : Tryz.f57.ntmps = 52 := Tryz.ntmps57
def ic_r14_Open : IC := (.seq (io [.o 3 (.box t0), .o 5 (.box t2), .o 6 (.alloc (.st (.cons (.st (zc (.cons (.st (zc (zc (zc (zc (zc (zc .nil))))))) (.cons zs (.cons (.st (.cons (.arr 12 1 fun _ => zi) .nil)) (.cons (.st (zc (zf (zc (zc (zc (zc (zc (zc (zc (zc (zc (zc (zc (zc (zc .nil)))))))))))))))) (zc (zc (zc (.cons (.st (zc (zc (zc (zc (zc .nil)))))) (zf (zc (zc .nil))))))))))))) (.cons (.st (zc (zc (zc (zc (zc .nil)))))) (.cons zs (zc .nil))))))])
  (.seq (io [el 10 true 18 t3, .o 11 (.build (.st (zc (.cons (.st (zc (zc (zc (zc (zc (zc .nil))))))) (.cons zs (.cons (.st (.cons (.arr 12 1 fun _ => zi) .nil)) (.cons (.st (zc (zf (zc (zc (zc (zc (zc (zc (zc (zc (zc (zc (zc (zc (zc .nil)))))))))))))))) (zc (zc (zc (.cons (.st (zc (zc (zc (zc (zc .nil)))))) (zf (zc (zc .nil))))))))))))) []), ec 12 84 [t10, t11], .o 7 (.alloc (.st (.cons (.st (zc (zc (zc (zc (zc (zc (zc (zc (zc (zc (zc (zc (zc (zc (zc (zc (zc (.cons zs .nil))))))))))))))))))) (.cons (.st (zc (.cons (.st (zc (zc (zc (zc (zc (zc .nil))))))) (.cons zs (.cons (.st (.cons (.arr 12 1 fun _ => zi) .nil)) (.cons (.st (zc (zf (zc (zc (zc (zc (zc (zc (zc (zc (zc (zc (zc (zc (zc .nil)))))))))))))))) (zc (zc (zc (.cons (.st (zc (zc (zc (zc (zc .nil)))))) (zf (zc (zc .nil))))))))))))) (.cons (.st (zc (zc (zc (zc (zc .nil)))))) (.cons zs (zc .nil))))))), .n (.sto 71 t7 t12)])
  (.seq (io [el 13 true 71 t7, em 14 t1, eb 15 .lss t14 (ci 1), em 16 t15, .og 17 16 false (.mv t1), .og 18 16 false (.bin .gtr t17 (ci 999999)), .o 19 (.pick t16 ct t18), ec 20 85 [t13, t19, (ci 2)], .n (.sto 71 t7 t20)])
  (.seq (.dops [el 21 true 71 t7, el 22 true 6 t5, ec 23 86 [t22], ec 24 85 [t21, t23, (ci 140)], .n (.sto 71 t7 t24)])
  (.seq (io [el 26 true 6 t5, ef 27 17 17 t3, el 28 false 1 t27, ec 29 87 [t26, t28], em 25 t29, ex 30 0 t25, ex 31 1 t25, em 8 t30, em 9 t31])
  (.seq (io [el 32 true 71 t7, em 33 t9, .o 34 (.un .not t33), ec 35 85 [t32, t34, (ci 141)], .n (.sto 71 t7 t35)])
  (.seq (.dops [em 36 t1, el 37 true 6 t5, em 38 t8, ec 39 88 [], ef 40 4 4 t5, el 41 false 1 t40, .o 42 (.build (.st (zc (.cons (.st (zc (zc (zc (zc (zc (zc .nil))))))) (.cons zs (.cons (.st (.cons (.arr 12 1 fun _ => zi) .nil)) (.cons (.st (zc (zf (zc (zc (zc (zc (zc (zc (zc (zc (zc (zc (zc (zc (zc .nil)))))))))))))))) (zc (zc (zc (.cons (.st (zc (zc (zc (zc (zc .nil)))))) (zf (zc (zc .nil))))))))))))) [(0, 0, 1, t36), (1, 1, 6, t37), (2, 7, 1, t38), (4, 20, 15, t39), (5, 35, 1, t41)]), ef 43 1 18 t7, .n (.sto 46 t43 t42)])
  (.seq (.dops [el 44 true 71 t7, ef 45 1 1 t5, el 46 false 1 t45, ec 47 90 [(.c (.slice none 0 0)), (ci 1), (ci 6), t46], ec 48 89 [t44, t47], .n (.sto 71 t7 t48)])
  (.seq (io [el 49 true 71 t7, .o 50 (.build (.st (zc (.cons (.st (zc (zc (zc (zc (zc (zc .nil))))))) (.cons zs (.cons (.st (.cons (.arr 12 1 fun _ => zi) .nil)) (.cons (.st (zc (zf (zc (zc (zc (zc (zc (zc (zc (zc (zc (zc (zc (zc (zc .nil)))))))))))))))) (zc (zc (zc (.cons (.st (zc (zc (zc (zc (zc .nil)))))) (zf (zc (zc .nil))))))))))))) []), ec 51 91 [t49, t50], .n (.sto 53 t6 t51)])
  .ret)))))))))
theorem hc_r14_Open : compF Tryz.prog 52 Tryz.f57 = some (ic_r14_Open, [.c 6 true 53]) := by kernel_rfl
theorem fn_r15_noticed : Tryz.prog.funcs[r15_noticed]? = some Tryz.f58 := Tryz.func58
theorem nt_r15_noticed : Tryz.f58.ntmps = 45 := Tryz.ntmps58
def ic_r15_noticed : IC := (.seq (io [.o 2 (.box t0), .o 4 (.alloc (.st (zc (.cons zs (.cons zs .nil)))))])
  (.seq (io [em 5 (.c (.slice none 0 0))])
  (.seq (.seq (io [em 6 (ci 0)])
  (.block 0 (.loop (.seq (.seq (io [em 9 t6, ef 10 2 2 t2, el 11 false 1 t10, .o 12 (.len t11), eb 13 .lss t9 t12])
  (.cond t13
  .skip
  (.exit 0)))
  (.seq (.block 1 (.ops [em 16 t5, ef 17 2 2 t2, el 18 false 1 t17, em 19 t6, es 20 6 t18 t19, el 21 true 6 t20, .o 22 (.bsl 6 74 (.st (zc (zc (zc (zc (zc (zf .nil))))))) [(0, 0, 6, t21)]), .o 23 (.app 6 48 74 t16 t22), em 5 t23]))
  (.ops [em 14 t6, eb 15 .add t14 (ci 1), em 6 t15]))))))
  (.seq (.seq (io [em 7 (ci 0)])
  (.block 2 (.loop (.seq (.seq (io [em 24 t7, em 25 t1, .o 26 (.len t25), eb 27 .lss t24 t26])
  (.cond t27
  .skip
  (.exit 2)))
  (.seq (.block 3 (.seq (io [em 30 t1, em 31 t7, es 32 6 t30 t31, el 33 true 6 t32, .o 8 (.alloc (.st (zc (zc (zc (zc (zc (zf .nil)))))))), .n (.sto 6 t8 t33)])
  (.seq (io [em 34 t5, .o 35 (.len t34), eb 36 .add t35 (ci 1), ef 37 0 0 t8, .n (.sto 1 t37 t36)])
  (.ops [em 38 t5, el 39 true 6 t8, .o 40 (.bsl 6 74 (.st (zc (zc (zc (zc (zc (zf .nil))))))) [(0, 0, 6, t39)]), .o 41 (.app 6 48 74 t38 t40), em 5 t41]))))
  (.ops [em 28 t7, eb 29 .add t28 (ci 1), em 7 t29]))))))
  (.seq (io [em 42 t5, ef 43 2 2 t2, .n (.sto 1 t43 t42)])
  (.seq (io [el 44 true 3 t2, .n (.sto 3 t4 t44)])
  .ret))))))
theorem hc_r15_noticed : compF Tryz.prog 45 Tryz.f58 = some (ic_r15_noticed, [.c 4 true 3]) := by kernel_rfl
theorem fn_r15_first : Tryz.prog.funcs[r15_first]? = some Tryz.f59 := Tryz.func59
theorem nt_r15_first : Tryz.f59.ntmps = 37 := Tryz.ntmps59
def ic_r15_first : IC := (.seq (io [.o 1 (.box t0), em 2 (.c (.slice none 0 0))])
  (.seq (io [em 3 (.c (.slice none 0 0))])
  (.seq (io [em 4 t3, ef 5 2 7 t1, el 6 false 1 t5, .o 7 (.len t6), .o 8 (.bsl 1 2 zi [(0, 0, 1, t7)]), .o 9 (.app 1 8 2 t4 t8), em 3 t9])
  (.seq (.seq (io [ef 10 2 7 t1, el 11 false 1 t10, .o 12 (.len t11), eb 13 .gtr t12 (ci 0)])
  (.cond t13
  (.seq (io [em 14 t3, ef 15 2 7 t1, el 16 false 1 t15, es 17 4 t16 (ci 0), ef 18 0 0 t17, el 19 false 1 t18, .o 20 (.bsl 1 2 zi [(0, 0, 1, t19)]), .o 21 (.app 1 8 2 t14 t20), em 3 t21])
  (.dops [em 22 t3, ef 23 2 7 t1, el 24 false 1 t23, es 25 4 t24 (ci 0), ef 26 1 1 t25, el 27 false 1 t26, ef 28 2 7 t1, el 29 false 1 t28, es 30 4 t29 (ci 0), ef 31 2 2 t30, el 32 false 1 t31, eb 33 .add t27 t32, .o 34 (.bsl 1 2 zi [(0, 0, 1, t33)]), .o 35 (.app 1 8 2 t22 t34), em 3 t35]))
  .skip))
  (.seq (io [em 36 t3, em 2 t36])
  .ret)))))
theorem hc_r15_first : compF Tryz.prog 37 Tryz.f59 = some (ic_r15_first, [.t 2]) := by kernel_rfl
theorem fn_r15_rolled : Tryz.prog.funcs[r15_rolled]? = some Tryz.f60 := Tryz.func60
theorem nt_r15_rolled : Tryz.f60.ntmps = 37 := Tryz.ntmps60
def ic_r15_rolled : IC := (.seq (io [.o 2 (.box t0), .o 3 (.box t1), .o 4 (.alloc (.st (zc (.cons zs (.cons zs .nil))))), em 5 (ci 0)])
  (.seq (.seq (io [em 6 (ci 0)])
  (.block 0 (.loop (.seq (.seq (io [em 8 t6, ef 9 1 1 t3, el 10 false 1 t9, .o 11 (.len t10), eb 12 .lss t8 t11])
  (.cond t12
  .skip
  (.exit 0)))
  (.seq (.block 1 (.seq (.dops [el 15 true 18 t2, ef 16 1 1 t3, el 17 false 1 t16, em 18 t6, es 19 46 t17 t18, el 20 true 46 t19, ec 21 92 [t15, t20], .o 7 (.alloc (.st (.cons (.st (zc (.cons (.st (zc (zc (zc (zc (zc (zc .nil))))))) (.cons zs (.cons (.st (.cons (.arr 12 1 fun _ => zi) .nil)) (.cons (.st (zc (zf (zc (zc (zc (zc (zc (zc (zc (zc (zc (zc (zc (zc (zc .nil)))))))))))))))) (zc (zc (zc (.cons (.st (zc (zc (zc (zc (zc .nil)))))) (zf (zc (zc .nil))))))))))))) (.cons (.st (zc (zc (zc (zc (zc .nil)))))) (.cons zs (zc .nil)))))), .n (.sto 53 t7 t21)])
  (.seq (.seq (io [ef 22 3 52 t7, el 23 false 1 t22, eb 24 .neq t23 (ci 0)])
  (.cond t24
  (.seq (.dopss [(el 25 true 3 t3, []), (ef 26 3 52 t7, []), (el 27 false 1 t26, [4]), (.n (.sto 3 t4 t25), []), (em 5 t27, [])])
  .ret)
  .skip))
  (.ops [el 28 true 3 t3, em 29 t6, el 30 true 53 t7, ec 31 62 [t28, t29, t30], .n (.sto 3 t3 t31)]))))
  (.ops [em 13 t6, eb 14 .add t13 (ci 1), em 6 t14]))))))
  (.seq (io [ef 32 0 0 t3, el 33 false 1 t32, eb 34 .add t33 (ci 1), ef 35 0 0 t3, .n (.sto 1 t35 t34)])
  (.seq (io [el 36 true 3 t3, .n (.sto 3 t4 t36), em 5 (ci 0)])
  .ret))))
theorem hc_r15_rolled : compF Tryz.prog 37 Tryz.f60 = some (ic_r15_rolled, [.c 4 true 3, .t 5]) := by kernel_rfl
theorem fn_r15_called : Tryz.prog.funcs[r15_called]? = some Tryz.f61 := Tryz.func61
theorem nt_r15_called : Tryz.f61.ntmps = 51 := Tryz.ntmps61
def ic_r15_called : IC := (.seq (io [.o 3 (.box t0), .o 4 (.box t1), .o 5 (.box t2), .o 6 (.alloc (.st (.cons (.st (zc (.cons (.st (zc (zc (zc (zc (zc (zc .nil))))))) (.cons zs (.cons (.st (.cons (.arr 12 1 fun _ => zi) .nil)) (.cons (.st (zc (zf (zc (zc (zc (zc (zc (zc (zc (zc (zc (zc (zc (zc (zc .nil)))))))))))))))) (zc (zc (zc (.cons (.st (zc (zc (zc (zc (zc .nil)))))) (zf (zc (zc .nil))))))))))))) (.cons (.st (zc (zc (zc (zc (zc .nil)))))) (.cons zs (zc .nil))))))])
  (.seq (.seq (io [ef 7 0 0 t5, el 8 false 1 t7])
  (.block 0 (.seq (io [eb 10 .eql t8 (ci 2), em 9 t10])
  (.cond t9
  (.seq (io [el 11 true 18 t3, el 12 true 46 t4, ef 13 2 2 t5, el 14 false 1 t13, ec 15 93 [t11, t12, t14], .n (.sto 53 t6 t15)])
  .ret)
  (.seq (io [eb 17 .eql t8 (ci 3), em 16 t17])
  (.cond t16
  (.seq (io [el 18 true 18 t3, el 19 true 46 t4, ec 20 94 [t18, t19], .n (.sto 53 t6 t20)])
  .ret)
  (.seq (io [eb 22 .eql t8 (ci 4), em 21 t22])
  (.cond t21
  (.seq (io [el 23 true 18 t3, el 24 true 46 t4, ef 25 2 2 t5, el 26 false 1 t25, ec 27 95 [t23, t24, t26], .n (.sto 53 t6 t27)])
  .ret)
  (.seq (io [eb 29 .eql t8 (ci 5), em 28 t29])
  (.cond t28
  (.seq (io [el 30 true 18 t3, el 31 true 46 t4, ef 32 2 2 t5, el 33 false 1 t32, ec 34 96 [t30, t31, t33], .n (.sto 53 t6 t34)])
  .ret)
  (.seq (io [eb 36 .eql t8 (ci 6), em 35 t36])
  (.cond t35
  (.seq (io [el 37 true 18 t3, el 38 true 46 t4, ef 39 2 2 t5, el 40 false 1 t39, ef 41 5 5 t5, el 42 false 1 t41, ec 43 97 [t37, t38, t40, t42], .n (.sto 53 t6 t43)])
  .ret)
  .skip))))))))))))
  (.seq (io [el 44 true 18 t3, el 45 true 46 t4, ef 46 4 4 t5, el 47 false 1 t46, ef 48 3 3 t5, el 49 false 1 t48, ec 50 98 [t44, t45, t47, t49], .n (.sto 53 t6 t50)])
  .ret)))
theorem hc_r15_called : compF Tryz.prog 51 Tryz.f61 = some (ic_r15_called, [.c 6 true 53]) := by kernel_rfl
theorem fn_r15_changed : Tryz.prog.funcs[r15_changed]? = some Tryz.f62 := Tryz.func62
theorem nt_r15_changed : Tryz.f62.ntmps = 38 := Tryz.ntmps62
def ic_r15_changed : IC := (.seq (io [.o 3 (.box t0), .o 5 (.box t2), .o 6 (.alloc (.st (zc (.cons zs (.cons zs .nil)))))])
  (.seq (io [em 7 (.c (.slice none 0 0))])
  (.seq (.seq (io [em 8 (ci 0)])
  (.block 0 (.loop (.seq (.seq (io [em 9 t8, ef 10 1 1 t3, el 11 false 1 t10, .o 12 (.len t11), eb 13 .lss t9 t12])
  (.cond t13
  .skip
  (.exit 0)))
  (.seq (.block 1 (.seq (io [em 16 t8, em 17 t1, eb 18 .eql t16 t17])
  (.cond t18
  (.ops [em 19 t7, ef 20 0 0 t5, el 21 true 46 t20, .o 22 (.bsl 46 45 (.st (zc (.cons (.st (zc (zc (zc (zc (zc (zc .nil))))))) (.cons zs (.cons (.st (.cons (.arr 12 1 fun _ => zi) .nil)) (.cons (.st (zc (zf (zc (zc (zc (zc (zc (zc (zc (zc (zc (zc (zc (zc (zc .nil)))))))))))))))) (zc (zc (zc (.cons (.st (zc (zc (zc (zc (zc .nil)))))) (zf (zc (zc .nil))))))))))))) [(0, 0, 46, t21)]), .o 23 (.app 46 384 45 t19 t22), em 7 t23])
  (.ops [em 24 t7, ef 25 1 1 t3, el 26 false 1 t25, em 27 t8, es 28 46 t26 t27, el 29 true 46 t28, .o 30 (.bsl 46 45 (.st (zc (.cons (.st (zc (zc (zc (zc (zc (zc .nil))))))) (.cons zs (.cons (.st (.cons (.arr 12 1 fun _ => zi) .nil)) (.cons (.st (zc (zf (zc (zc (zc (zc (zc (zc (zc (zc (zc (zc (zc (zc (zc .nil)))))))))))))))) (zc (zc (zc (.cons (.st (zc (zc (zc (zc (zc .nil)))))) (zf (zc (zc .nil))))))))))))) [(0, 0, 46, t29)]), .o 31 (.app 46 384 45 t24 t30), em 7 t31]))))
  (.ops [em 14 t8, eb 15 .add t14 (ci 1), em 8 t15]))))))
  (.seq (io [em 32 t7, ef 33 1 1 t3, .n (.sto 1 t33 t32)])
  (.seq (io [el 34 true 3 t3, ef 35 2 51 t5, el 36 false 1 t35, ec 37 58 [t34, t36], .n (.sto 3 t6 t37)])
  .ret)))))
theorem hc_r15_changed : compF Tryz.prog 38 Tryz.f62 = some (ic_r15_changed, [.c 6 true 3]) := by kernel_rfl
theorem fn_r15_numbers : Tryz.prog.funcs[r15_numbers]? = some Tryz.f63 := Tryz.func63
theorem nt_r15_numbers : Tryz.f63.ntmps = 105 := Tryz.ntmps63
def ic_r15_numbers : IC := (.seq (io [.o 2 (.box t0), .o 3 (.box t1), em 4 (.c (.slice none 0 0))])
  (.seq (io [ef 13 0 0 t3, el 14 true 46 t13, .o 5 (.alloc (.st (zc (.cons (.st (zc (zc (zc (zc (zc (zc .nil))))))) (.cons zs (.cons (.st (.cons (.arr 12 1 fun _ => zi) .nil)) (.cons (.st (zc (zf (zc (zc (zc (zc (zc (zc (zc (zc (zc (zc (zc (zc (zc .nil)))))))))))))))) (zc (zc (zc (.cons (.st (zc (zc (zc (zc (zc .nil)))))) (zf (zc (zc .nil)))))))))))))), .n (.sto 46 t5 t14)])
  (.seq (io [ef 15 1 46 t3, el 16 true 5 t15, .o 6 (.alloc (.st (zc (zc (zc (zc (zc .nil))))))), .n (.sto 5 t6 t16)])
  (.seq (io [ef 17 4 20 t5, ef 18 0 0 t17, el 19 false 1 t18, em 7 t19])
  (.seq (io [em 8 (.c (.slice none 0 0))])
  (.seq (.seq (io [ef 20 0 0 t2, el 21 false 1 t20])
  (.block 0 (.seq (io [eb 33 .eql t21 (ci 2), em 32 t33])
  (.cond t32
  (.ops [em 34 t8, ef 35 0 0 t6, el 36 false 1 t35, ef 37 1 1 t6, el 38 false 1 t37, ef 39 2 2 t6, el 40 false 1 t39, ef 41 3 3 t6, el 42 false 1 t41, ef 43 4 4 t6, el 44 false 1 t43, em 45 t7, .o 46 (.bsl 1 2 zi [(0, 0, 1, t36), (1, 1, 1, t38), (2, 2, 1, t40), (3, 3, 1, t42), (4, 4, 1, t44), (5, 5, 1, t45)]), .o 47 (.app 1 8 2 t34 t46), em 8 t47])
  (.seq (io [eb 49 .eql t21 (ci 3), em 48 t49])
  (.cond t48
  (.ops [em 50 t8, ef 51 0 0 t6, el 52 false 1 t51, ef 53 1 1 t6, el 54 false 1 t53, eb 55 .add t52 t54, ef 56 2 2 t6, el 57 false 1 t56, eb 58 .add t55 t57, ef 59 3 3 t6, el 60 false 1 t59, eb 61 .add t58 t60, ef 62 4 4 t6, el 63 false 1 t62, eb 64 .add t61 t63, em 65 t7, .o 66 (.bsl 1 2 zi [(0, 0, 1, t64), (1, 1, 1, t65)]), .o 67 (.app 1 8 2 t50 t66), em 8 t67])
  (.seq (io [eb 69 .eql t21 (ci 4), em 68 t69])
  (.cond t68
  (.seq (io [ef 71 3 8 t5, el 72 true 12 t71, ec 73 71 [t72, (ci 4)], em 70 t73, ex 74 0 t70, ex 75 1 t70, em 9 t74, em 10 t75])
  (.ops [em 76 t8, em 77 t9, .o 78 (.bsl 1 2 zi [(0, 0, 1, t77)]), .o 79 (.app 1 8 2 t76 t78), em 8 t79]))
  (.seq (io [eb 81 .eql t21 (ci 5), em 80 t81])
  (.cond t80
  (.seq (io [ef 83 3 8 t5, el 84 true 12 t83, ec 85 71 [t84, (ci 3)], em 82 t85, ex 86 0 t82, ex 87 1 t82, em 11 t86, em 12 t87])
  (.ops [em 88 t8, em 89 t11, em 90 t7, .o 91 (.bsl 1 2 zi [(0, 0, 1, t89), (1, 1, 1, t90)]), .o 92 (.app 1 8 2 t88 t91), em 8 t92]))
  (.seq (io [eb 94 .eql t21 (ci 6), em 93 t94])
  (.cond t93
  (.ops [em 95 t8, ef 96 4 20 t5, ef 97 6 6 t96, el 98 false 1 t97, ef 99 4 20 t5, ef 100 4 4 t99, el 101 false 1 t100, .o 102 (.bsl 1 2 zi [(0, 0, 1, t98), (1, 1, 1, t101)]), .o 103 (.app 1 8 2 t95 t102), em 8 t103])
  (.seq (io [em 22 t8, ef 23 1 1 t5, ef 24 1 1 t23, el 25 false 1 t24, .o 26 (.bsl 1 2 zi [(0, 0, 1, t25)]), .o 27 (.app 1 8 2 t22 t26), em 8 t27])
  (.ops [em 28 t8, el 29 true 46 t5, ec 30 59 [t29], .o 31 (.app 1 8 2 t28 t30), em 8 t31]))))))))))))))
  (.seq (io [em 104 t8, em 4 t104])
  .ret)))))))
theorem hc_r15_numbers : compF Tryz.prog 105 Tryz.f63 = some (ic_r15_numbers, [.t 4]) := by kernel_rfl
end Go.Proofs.YtjkmmcbfcglkdaaGreatDoor
