/- The given functions as the walk reads them: each constant is what the program's text comes to. No condition. -/
import Derived.Test.YtjkmmcbfcglkdaaGreatDoorK7
import Derived.Test.YtjkmmcbfcglkdaaGreatDoorK6
import Derived.Test.YtjkmmcbfcglkdaaGreatDoorProg
import Derived.KernelRfl
set_option linter.all false
namespace Go.Proofs.YtjkmmcbfcglkdaaGreatDoor
open Go Ar
set_option linter.unusedVariables false
set_option maxRecDepth 100000

def sideL : List Int := [1, 1, 1, 1, -1, -1, -1, -1, -1, 1, -1, 1]
abbrev gl0 : Nat → AV := fun k => match k with
  | 0 => .elt 1 12 (fun _ => .arr 12 1 (fun i => I (at_ sideL i))) 0 []
  | _ => .any
theorem gl0n : ∀ i, nf (gl0 i) := fun i => by
  match i with
  | 0 => exact fun _ _ => trivial
  | _ + 1 => trivial
theorem side_ok (i : Nat) : okI .i64 (at_ sideL i) := by
  by_cases h : i < 12
  · have : i = 0 ∨ i = 1 ∨ i = 2 ∨ i = 3 ∨ i = 4 ∨ i = 5 ∨ i = 6 ∨ i = 7 ∨ i = 8 ∨ i = 9 ∨ i = 10 ∨ i = 11 := by omega
    rcases this with rfl | rfl | rfl | rfl | rfl | rfl | rfl | rfl | rfl | rfl | rfl | rfl <;> decide
  · have : at_ sideL i = 0 := by
      unfold at_ sideL
      rw [List.getD_eq_getElem?_getD, List.getElem?_eq_none (by simp; omega)]
      rfl
    rw [this]; decide
theorem gl0w : GlW gl0 := glw_row 12 _ (fun i => .int .i64 (at_ sideL i)) rfl (fun _ => rfl) (fun _ => rfl) side_ok
theorem mixed : Tryz.prog.follows .mixedOrders = true := rfl

abbrev zi : AV := .val (.int .i64 0)
abbrev zs : AV := .val (.slice none 0 0)
abbrev zc (a : AV) : AV := .cons zi a
abbrev zf (a : AV) : AV := .cons (.val (.bool false)) a
abbrev ci (n : Int) : X := .c (.int .i64 n)
abbrev t0 : X := .t 0
abbrev t1 : X := .t 1
abbrev t2 : X := .t 2
abbrev t3 : X := .t 3
abbrev t4 : X := .t 4
abbrev t5 : X := .t 5
abbrev t6 : X := .t 6
abbrev t7 : X := .t 7
abbrev t8 : X := .t 8
abbrev t9 : X := .t 9
abbrev t10 : X := .t 10
abbrev t11 : X := .t 11
abbrev t12 : X := .t 12
abbrev t13 : X := .t 13
abbrev t14 : X := .t 14
abbrev t15 : X := .t 15
abbrev t16 : X := .t 16
abbrev t17 : X := .t 17
abbrev t18 : X := .t 18
abbrev t19 : X := .t 19
abbrev t20 : X := .t 20
abbrev t21 : X := .t 21
abbrev t22 : X := .t 22
abbrev t23 : X := .t 23
abbrev t24 : X := .t 24
abbrev t25 : X := .t 25
abbrev t26 : X := .t 26
abbrev t27 : X := .t 27
abbrev t28 : X := .t 28
abbrev t29 : X := .t 29
abbrev t30 : X := .t 30
abbrev t31 : X := .t 31
abbrev t32 : X := .t 32
abbrev t33 : X := .t 33
abbrev t34 : X := .t 34
abbrev t35 : X := .t 35
abbrev t36 : X := .t 36
abbrev t37 : X := .t 37
abbrev t38 : X := .t 38
abbrev t39 : X := .t 39
abbrev t40 : X := .t 40
abbrev t41 : X := .t 41
abbrev t42 : X := .t 42
abbrev t43 : X := .t 43
abbrev t44 : X := .t 44
abbrev t45 : X := .t 45
abbrev t46 : X := .t 46
abbrev t47 : X := .t 47
abbrev t48 : X := .t 48
abbrev t49 : X := .t 49
abbrev t50 : X := .t 50
abbrev t51 : X := .t 51
abbrev t52 : X := .t 52
abbrev t53 : X := .t 53
abbrev t54 : X := .t 54
abbrev t55 : X := .t 55
abbrev t56 : X := .t 56
abbrev t57 : X := .t 57
abbrev t58 : X := .t 58
abbrev t59 : X := .t 59
abbrev t60 : X := .t 60
abbrev t61 : X := .t 61
abbrev t62 : X := .t 62
abbrev t63 : X := .t 63
abbrev t64 : X := .t 64
abbrev t65 : X := .t 65
abbrev t66 : X := .t 66
abbrev t67 : X := .t 67
abbrev t68 : X := .t 68
abbrev t69 : X := .t 69
abbrev t70 : X := .t 70
abbrev t71 : X := .t 71
abbrev t72 : X := .t 72
abbrev t73 : X := .t 73
abbrev t74 : X := .t 74
abbrev t75 : X := .t 75
abbrev t76 : X := .t 76
abbrev t77 : X := .t 77
abbrev t78 : X := .t 78
abbrev t79 : X := .t 79
abbrev t80 : X := .t 80
abbrev t81 : X := .t 81
abbrev t82 : X := .t 82
abbrev t83 : X := .t 83
abbrev t84 : X := .t 84
abbrev t85 : X := .t 85
abbrev t86 : X := .t 86
abbrev t87 : X := .t 87
abbrev t88 : X := .t 88
abbrev t89 : X := .t 89
abbrev t90 : X := .t 90
abbrev t91 : X := .t 91
abbrev t92 : X := .t 92
abbrev t93 : X := .t 93
abbrev t94 : X := .t 94
abbrev t95 : X := .t 95
abbrev t96 : X := .t 96
abbrev t97 : X := .t 97
abbrev t98 : X := .t 98
abbrev t99 : X := .t 99
abbrev t100 : X := .t 100
abbrev t101 : X := .t 101
abbrev t102 : X := .t 102
abbrev t103 : X := .t 103
abbrev t104 : X := .t 104
abbrev t105 : X := .t 105
abbrev t106 : X := .t 106
abbrev t107 : X := .t 107
abbrev t108 : X := .t 108
abbrev t109 : X := .t 109
abbrev t110 : X := .t 110
abbrev t111 : X := .t 111
abbrev t112 : X := .t 112
abbrev t113 : X := .t 113
abbrev t114 : X := .t 114
abbrev t115 : X := .t 115
abbrev t116 : X := .t 116
abbrev t117 : X := .t 117
abbrev t118 : X := .t 118
abbrev t119 : X := .t 119
abbrev t120 : X := .t 120
abbrev t121 : X := .t 121
abbrev t122 : X := .t 122
abbrev t123 : X := .t 123
abbrev t124 : X := .t 124
abbrev t125 : X := .t 125
abbrev t126 : X := .t 126
abbrev t127 : X := .t 127
abbrev t128 : X := .t 128
abbrev t129 : X := .t 129
abbrev t130 : X := .t 130
abbrev t131 : X := .t 131
abbrev t132 : X := .t 132
abbrev t133 : X := .t 133
abbrev t134 : X := .t 134
abbrev t135 : X := .t 135
abbrev t136 : X := .t 136
abbrev t137 : X := .t 137
abbrev t138 : X := .t 138
abbrev t139 : X := .t 139
abbrev t140 : X := .t 140
abbrev t141 : X := .t 141
abbrev t142 : X := .t 142
abbrev t143 : X := .t 143
abbrev t144 : X := .t 144
abbrev t145 : X := .t 145
abbrev t146 : X := .t 146
abbrev t147 : X := .t 147
abbrev t148 : X := .t 148
abbrev t149 : X := .t 149
abbrev t150 : X := .t 150
abbrev t151 : X := .t 151
abbrev t152 : X := .t 152
abbrev t153 : X := .t 153
abbrev t154 : X := .t 154
abbrev t155 : X := .t 155
abbrev t156 : X := .t 156
abbrev t157 : X := .t 157
abbrev t158 : X := .t 158
abbrev t159 : X := .t 159
abbrev t160 : X := .t 160
abbrev t161 : X := .t 161
abbrev t162 : X := .t 162
abbrev t163 : X := .t 163
abbrev t164 : X := .t 164
abbrev t165 : X := .t 165
abbrev t166 : X := .t 166
abbrev t167 : X := .t 167

abbrev l21_ReportRolls : Nat := 4
abbrev l21_behind : Nat := 6
abbrev l21_twin : Nat := 7
abbrev l21_own : Nat := 8
abbrev report_Class : Nat := 9
abbrev r21_Class : Nat := 10
abbrev l21_still : Nat := 11
abbrev l21_sameDays : Nat := 12
abbrev report_Roll : Nat := 13
abbrev r21_Roll : Nat := 14
abbrev r12_Check : Nat := 17
abbrev r15_Begin : Nat := 18
abbrev r15_Apply : Nat := 19
abbrev loan_Look : Nat := 20
abbrev r14_Look : Nat := 21
abbrev r1_Sum : Nat := 26
abbrev r1_Bps : Nat := 27
abbrev r12_may : Nat := 28
abbrev r15_opened : Nat := 29
abbrev r15_days : Nat := 30
abbrev r15_onLoan : Nat := 31
abbrev r15_refusal : Nat := 32
abbrev loan_Look_c1 : Nat := 33
abbrev policy_Check : Nat := 34
abbrev loan_give : Nat := 35
abbrev loan_owed : Nat := 36
abbrev loan_position : Nat := 37
abbrev aging_Days : Nat := 38
abbrev aging_PastDue : Nat := 39
abbrev loan_balance : Nat := 40
abbrev aging_Bucket : Nat := 41
abbrev aging_Oldest : Nat := 42
abbrev r14_days : Nat := 43
abbrev r14_pastDue : Nat := 44
abbrev r10_Bucket : Nat := 45
abbrev r14_of : Nat := 46
abbrev r10_Oldest : Nat := 47
abbrev r14_Position : Nat := 48
abbrev r1_high : Nat := 50
abbrev r1_lowOf : Nat := 51
abbrev r1_joined : Nat := 52
abbrev r1_MulDiv : Nat := 53
abbrev r12_in : Nat := 54
abbrev r12_holidays : Nat := 55
abbrev r15_place : Nat := 56
abbrev r14_Open : Nat := 57
abbrev r15_noticed : Nat := 58
abbrev r15_first : Nat := 59
abbrev r15_rolled : Nat := 60
abbrev r15_called : Nat := 61
abbrev r15_changed : Nat := 62
abbrev r15_numbers : Nat := 63
abbrev policy_rules : Nat := 64
abbrev aging_lateness : Nat := 65
abbrev ledger_Balance : Nat := 66
abbrev aging_sound : Nat := 67
abbrev aging_front : Nat := 68
abbrev r10_Days : Nat := 69
abbrev r10_PastDue : Nat := 70
abbrev r8_Balance : Nat := 71
abbrev r10_rows : Nat := 72
abbrev r10_satisfied : Nat := 73
abbrev r1_size : Nat := 78
abbrev r1_over : Nat := 79
abbrev r1_times : Nat := 80
abbrev r1_digits : Nat := 81
abbrev r1_more : Nat := 82
abbrev r1_signed : Nat := 83
abbrev r14_begin : Nat := 84
abbrev r14_fail : Nat := 85
abbrev r14_wrong : Nat := 86
abbrev r3_Plan : Nat := 87
abbrev r13_Fresh : Nat := 88
abbrev r14_posted : Nat := 89
abbrev r14_move : Nat := 90
abbrev r14_done : Nat := 91
abbrev r14_Roll : Nat := 92
abbrev r14_Pay : Nat := 93
abbrev r14_Return : Nat := 94
abbrev r14_Refund : Nat := 95
abbrev r14_Waive : Nat := 96
abbrev r14_Promise : Nat := 97
abbrev r14_Restructure : Nat := 98
abbrev arrears_policy_between_int_ : Nat := 99
abbrev policy_rules_c1 : Nat := 100
abbrev arrears_policy_from_int_ : Nat := 101
abbrev policy_rules_c2 : Nat := 102
abbrev policy_rules_c3 : Nat := 103
abbrev policy_rules_c4 : Nat := 104
abbrev policy_rules_c5 : Nat := 105
abbrev arrears_policy_between_int64_ : Nat := 106
abbrev policy_rules_c6 : Nat := 107
abbrev arrears_policy_from_int64_ : Nat := 108
abbrev policy_rules_c7 : Nat := 109
abbrev policy_rules_c8 : Nat := 110
abbrev policy_rules_c9 : Nat := 111
abbrev policy_rules_c10 : Nat := 112
abbrev policy_rules_c11 : Nat := 113
abbrev policy_rules_c12 : Nat := 114
abbrev policy_rules_c13 : Nat := 115
abbrev policy_rules_c14 : Nat := 116
abbrev policy_rules_c15 : Nat := 117
abbrev policy_rules_c16 : Nat := 118
abbrev policy_rules_c17 : Nat := 119
abbrev policy_rules_c18 : Nat := 120
abbrev policy_rules_c19 : Nat := 121
abbrev policy_rules_c20 : Nat := 122
abbrev policy_days : Nat := 123
abbrev arrears_money_Sum_int64_ : Nat := 124
abbrev r10_late : Nat := 125
abbrev r10_before : Nat := 126
abbrev r10_paid : Nat := 127
abbrev r8_is : Nat := 128
abbrev r8_Debits : Nat := 129
abbrev r10_Sound : Nat := 130
abbrev r14_copied : Nat := 132
abbrev r3_Valid : Nat := 133
abbrev r3_Level : Nat := 134
abbrev r3_month : Nat := 135
abbrev r3_part : Nat := 136
abbrev r3_Due : Nat := 137
abbrev r8_Post : Nat := 138
abbrev r14_accrued : Nat := 139
abbrev r14_over : Nat := 140
abbrev r14_played : Nat := 141
abbrev r14_charged : Nat := 142
abbrev r14_parted : Nat := 143
abbrev r9_Entries : Nat := 144
abbrev r14_settled : Nat := 145
abbrev r9_Undo : Nat := 146
abbrev r14_forgotten : Nat := 147
abbrev r14_noted : Nat := 148
abbrev r14_owed : Nat := 149
abbrev r14_sum : Nat := 150
abbrev arrears_policy_between_int_1 : Nat := 151
abbrev arrears_policy_from_int_1 : Nat := 152
abbrev arrears_policy_between_int64_1 : Nat := 153
abbrev arrears_policy_from_int64_1 : Nat := 154
abbrev r10_amounts : Nat := 156
abbrev r3_isRate : Nat := 158
abbrev r3_PaysOff : Nat := 159
abbrev r2_Civil : Nat := 160
abbrev r2_AddMonths : Nat := 161
abbrev r2_Adjust : Nat := 162
abbrev r8_refused : Nat := 163
abbrev r8_moves : Nat := 164
abbrev r8_OwnSide : Nat := 165
abbrev r3_Span : Nat := 166
abbrev r13_Step : Nat := 167
abbrev r14_acted : Nat := 168
abbrev r13_Open : Nat := 169
abbrev r10_Missed : Nat := 170
abbrev r12_Assess : Nat := 171
abbrev r10_Mark : Nat := 172
abbrev r9_Recover : Nat := 173
abbrev r9_Allocate : Nat := 174
abbrev r9_moves : Nat := 175
abbrev r2_isDay : Nat := 176
abbrev r2_yearLen : Nat := 177
abbrev r2_lenOf : Nat := 178
abbrev r2_Number : Nat := 179
abbrev r2_sought : Nat := 180
abbrev r13_numbers : Nat := 181
abbrev r13_standing : Nat := 182
abbrev r13_taken : Nat := 183
abbrev r14_given : Nat := 184
abbrev r12_good : Nat := 185
abbrev r12_LateFee : Nat := 186
abbrev r12_room : Nat := 187
abbrev r9_Turn : Nat := 188
abbrev r9_part : Nat := 189
abbrev r9_with : Nat := 190
abbrev r2_divides : Nat := 191
abbrev r2_MonthLen : Nat := 192
abbrev r2_Business : Nat := 193
abbrev r13_fits : Nat := 194
abbrev r13_age : Nat := 195
abbrev r13_paid : Nat := 196
abbrev r13_returned : Nat := 197
abbrev r13_ended : Nat := 198
abbrev r13_cure : Nat := 199
abbrev r9_wants : Nat := 200
abbrev r2_Weekday : Nat := 201
abbrev r13_back : Nat := 202
abbrev r13_quiet : Nat := 203
abbrev r13_cleared : Nat := 204
theorem fn_l21_ReportRolls : Tryz.prog.funcs[l21_ReportRolls]? = some Tryz.f4 := Tryz.func4
theorem nt_l21_ReportRolls : Tryz.f4.ntmps = 66 := Tryz.ntmps4
def ic_l21_ReportRolls : IC := (.seq (.ops [.o 3 (.box t0), .o 6 (.mv (.c (.bool false)))])
  (.seq (.ops [.o 14 (.ld true 18 t3), .o 15 (.mv t1), .o 16 (.mv t2), .o 17 (.call 6 [t14, t15, t16]), .o 7 (.alloc (.st (zc (.cons zs (.cons zs .nil))))), .n (.sto 3 t7 t17)])
  (.seq (.ops [.o 18 (.ld true 18 t3), .o 19 (.mv t1), .o 20 (.call 6 [t18, t19, (ci 200)]), .o 8 (.alloc (.st (zc (.cons zs (.cons zs .nil))))), .n (.sto 3 t8 t20)])
  (.seq (.ops [.o 21 (.ld true 3 t7), .o 22 (.call 7 [t21]), .o 9 (.alloc (.st (zc (.cons zs (.cons zs .nil))))), .n (.sto 3 t9 t22)])
  (.seq (.ops [.o 23 (.ld true 3 t8), .o 24 (.call 7 [t23]), .o 10 (.alloc (.st (zc (.cons zs (.cons zs .nil))))), .n (.sto 3 t10 t24)])
  (.seq (.ops [.o 25 (.ld true 18 t3), .o 26 (.call 8 [t25]), .o 11 (.alloc (.st (zc (zc (zc (zc (zc (zc (zc (zc (zc (zc (zc (zc (zc (zc (zc (zc (zc (.cons zs .nil)))))))))))))))))))), .n (.sto 18 t11 t26)])
  (.seq (.ops [.o 27 (.ld true 18 t11), .o 28 (.ld true 3 t9), .o 29 (.ld true 3 t10), .o 30 (.call 13 [t27, t28, t29]), .o 12 (.alloc (.arr 7 7 fun _ => (.arr 7 1 fun _ => zi))), .n (.sto 49 t12 t30)])
  (.seq (.ops [.o 31 (.ld true 18 t11), .o 32 (.ld true 3 t10), .o 33 (.ld true 3 t9), .o 34 (.call 13 [t31, t32, t33]), .o 13 (.alloc (.arr 7 7 fun _ => (.arr 7 1 fun _ => zi))), .n (.sto 49 t13 t34)])
  (.seq (.dops [.o 35 (.ld true 49 t12), .o 36 (.ld true 18 t3), .o 37 (.ld true 3 t7), .o 38 (.ld true 3 t8), .o 39 (.call 14 [t36, t37, t38]), .o 40 (.eqs false (.arr 7 7 (.arr 7 1 .int)) t35 t39), .o 41 (.mv t40), .og 42 41 true (.ld true 49 t13), .og 43 41 true (.ld true 18 t3), .og 44 41 true (.ld true 3 t8), .og 45 41 true (.ld true 3 t7), .og 46 41 true (.call 14 [t43, t44, t45]), .og 47 41 true (.eqs false (.arr 7 7 (.arr 7 1 .int)) t42 t46), .o 48 (.pick t41 t47 (.c (.bool false))), .o 49 (.mv t48), .og 50 49 true (.ld true 3 t9), .og 51 49 true (.ld true 3 t7), .og 52 49 true (.call 11 [t50, t51]), .o 53 (.pick t49 t52 (.c (.bool false))), .o 54 (.mv t53), .og 55 54 true (.ld true 3 t10), .og 56 54 true (.ld true 3 t8), .og 57 54 true (.call 11 [t55, t56]), .o 58 (.pick t54 t57 (.c (.bool false))), .o 59 (.mv t58), .og 60 59 true (.fa 17 17 t11), .og 61 59 true (.ld false 1 t60), .og 62 59 true (.fa 17 17 t3), .og 63 59 true (.ld false 1 t62), .og 64 59 true (.call 12 [t61, t63]), .o 65 (.pick t59 t64 (.c (.bool false))), .o 6 (.mv t65)])
  .ret)))))))))
theorem hc_l21_ReportRolls : compF Tryz.prog 66 Tryz.f4 = some (ic_l21_ReportRolls, [.t 6]) := by kernel_rfl

theorem fn_l21_behind : Tryz.prog.funcs[l21_behind]? = some Tryz.f6 := Tryz.func6
theorem nt_l21_behind : Tryz.f6.ntmps = 47 := Tryz.ntmps6
def ic_l21_behind : IC := (.seq (.ops [.o 3 (.box t0), .o 6 (.alloc (.st (zc (.cons zs (.cons zs .nil)))))])
  (.seq (.ops [.o 12 (.ld true 18 t3), .o 13 (.call 17 [t12]), .o 11 (.mv t13), .o 14 (.ext 0 t11), .o 15 (.ext 1 t11), .o 7 (.mv t14), .o 8 (.mv t15)])
  (.seq (.seq (.ops [.o 16 (.mv t7), .o 17 (.bin .neq t16 (ci 0))])
  (.cond t17
  (.seq (.ops [.o 18 (.build (.st (zc (.cons zs (.cons zs .nil)))) []), .n (.sto 3 t6 t18)])
  .ret)
  .skip))
  (.seq (.ops [.o 19 (.ld true 18 t3), .o 20 (.call 18 [t19]), .o 9 (.alloc (.st (zc (.cons zs (.cons zs .nil))))), .n (.sto 3 t9 t20)])
  (.seq (.seq (.ops [.o 10 (.mv (ci 0))])
  (.block 0 (.loop (.seq (.seq (.ops [.o 21 (.mv t10), .o 22 (.mv t1), .o 23 (.len t22), .o 24 (.bin .lss t21 t23), .o 25 (.mv t24), .og 26 25 true (.mv t10), .og 27 25 true (.mv t2), .og 28 25 true (.bin .lss t26 t27), .o 29 (.pick t25 t28 (.c (.bool false))), .o 30 (.mv t29), .og 31 30 true (.mv t10), .og 32 30 true (.bin .lss t31 (ci 200)), .o 33 (.pick t30 t32 (.c (.bool false)))])
  (.cond t33
  .skip
  (.exit 0)))
  (.seq (.block 1 (.dops [.o 37 (.ld true 18 t3), .o 38 (.ld true 3 t9), .o 39 (.mv t1), .o 40 (.mv t10), .o 41 (.ixs 7 t39 t40), .o 42 (.ld true 7 t41), .o 43 (.call 19 [t37, t38, t42]), .o 36 (.mv t43), .o 44 (.ext 0 t36), .o 45 (.ext 1 t36), .n (.sto 3 t9 t44)]))
  (.ops [.o 34 (.mv t10), .o 35 (.bin .add t34 (ci 1)), .o 10 (.mv t35)]))))))
  (.seq (.ops [.o 46 (.ld true 3 t9), .n (.sto 3 t6 t46)])
  .ret))))))
theorem hc_l21_behind : compF Tryz.prog 47 Tryz.f6 = some (ic_l21_behind, [.c 6 true 3]) := by kernel_rfl

theorem fn_l21_twin : Tryz.prog.funcs[l21_twin]? = some Tryz.f7 := Tryz.func7
theorem nt_l21_twin : Tryz.f7.ntmps = 37 := Tryz.ntmps7
def ic_l21_twin : IC := (.seq (.ops [.o 1 (.box t0), .o 2 (.alloc (.st (zc (.cons zs (.cons zs .nil)))))])
  (.seq (.ops [.o 3 (.mv (.c (.slice none 0 0)))])
  (.seq (.seq (.ops [.o 4 (.mv (ci 0))])
  (.block 0 (.loop (.seq (.seq (.ops [.o 8 (.mv t4), .o 9 (.fa 1 1 t1), .o 10 (.ld false 1 t9), .o 11 (.len t10), .o 12 (.bin .lss t8 t11)])
  (.cond t12
  .skip
  (.exit 0)))
  (.seq (.block 1 (.seq (.ops [.o 15 (.fa 1 1 t1), .o 16 (.ld false 1 t15), .o 17 (.mv t4), .o 18 (.ixs 46 t16 t17), .o 19 (.ld true 46 t18), .o 5 (.alloc (.st (zc (.cons (.st (zc (zc (zc (zc (zc (zc .nil))))))) (.cons zs (.cons (.st (.cons (.arr 12 1 fun _ => zi) .nil)) (.cons (.st (zc (zf (zc (zc (zc (zc (zc (zc (zc (zc (zc (zc (zc (zc (zc .nil)))))))))))))))) (zc (zc (zc (.cons (.st (zc (zc (zc (zc (zc .nil)))))) (zf (zc (zc .nil)))))))))))))), .n (.sto 46 t5 t19)])
  (.seq (.ops [.o 6 (.mv (.c (.slice none 0 0)))])
  (.seq (.ops [.o 20 (.mv t6), .o 21 (.fa 2 7 t5), .o 22 (.ld false 1 t21), .o 23 (.app 4 32 72 t20 t22), .o 24 (.fa 2 7 t5), .n (.sto 1 t24 t23)])
  (.ops [.o 25 (.mv t3), .o 26 (.ld true 46 t5), .o 27 (.bsl 46 45 (.st (zc (.cons (.st (zc (zc (zc (zc (zc (zc .nil))))))) (.cons zs (.cons (.st (.cons (.arr 12 1 fun _ => zi) .nil)) (.cons (.st (zc (zf (zc (zc (zc (zc (zc (zc (zc (zc (zc (zc (zc (zc (zc .nil)))))))))))))))) (zc (zc (zc (.cons (.st (zc (zc (zc (zc (zc .nil)))))) (zf (zc (zc .nil))))))))))))) [(0, 0, 46, t26)]), .o 28 (.app 46 384 45 t25 t27), .o 3 (.mv t28)])))))
  (.ops [.o 13 (.mv t4), .o 14 (.bin .add t13 (ci 1)), .o 4 (.mv t14)]))))))
  (.seq (.ops [.o 7 (.mv (.c (.slice none 0 0)))])
  (.seq (.ops [.o 29 (.mv t3), .o 30 (.fa 1 1 t1), .n (.sto 1 t30 t29)])
  (.seq (.ops [.o 31 (.mv t7), .o 32 (.fa 2 2 t1), .o 33 (.ld false 1 t32), .o 34 (.app 6 48 74 t31 t33), .o 35 (.fa 2 2 t1), .n (.sto 1 t35 t34)])
  (.seq (.ops [.o 36 (.ld true 3 t1), .n (.sto 3 t2 t36)])
  .ret)))))))
theorem hc_l21_twin : compF Tryz.prog 37 Tryz.f7 = some (ic_l21_twin, [.c 2 true 3]) := by kernel_rfl

theorem fn_l21_own : Tryz.prog.funcs[l21_own]? = some Tryz.f8 := Tryz.func8
theorem nt_l21_own : Tryz.f8.ntmps = 10 := Tryz.ntmps8
def ic_l21_own : IC := (.seq (.ops [.o 1 (.box t0), .o 2 (.alloc (.st (zc (zc (zc (zc (zc (zc (zc (zc (zc (zc (zc (zc (zc (zc (zc (zc (zc (.cons zs .nil))))))))))))))))))))])
  (.seq (.ops [.o 3 (.mv (.c (.slice none 0 0)))])
  (.seq (.ops [.o 4 (.mv t3), .o 5 (.fa 17 17 t1), .o 6 (.ld false 1 t5), .o 7 (.app 1 8 3 t4 t6), .o 8 (.fa 17 17 t1), .n (.sto 1 t8 t7)])
  (.seq (.ops [.o 9 (.ld true 18 t1), .n (.sto 18 t2 t9)])
  .ret))))
theorem hc_l21_own : compF Tryz.prog 10 Tryz.f8 = some (ic_l21_own, [.c 2 true 18]) := by kernel_rfl

theorem fn_report_Class : Tryz.prog.funcs[report_Class]? = some Tryz.f9 := Tryz.func9
theorem nt_report_Class : Tryz.f9.ntmps = 16 := Tryz.ntmps9
def ic_report_Class : IC := (.seq (.ops [.o 2 (.box t0), .o 3 (.box t1), .o 4 (.mv (ci 0))])
  (.seq (.seq (.ops [.o 5 (.fa 4 20 t3), .o 6 (.fa 0 0 t5), .o 7 (.ld false 1 t6)])
  (.block 0 (.seq (.ops [.o 9 (.bin .eql t7 (ci 9)), .o 8 (.mv t9)])
  (.cond t8
  (.seq (.ops [.o 4 (.mv (ci 6))])
  .ret)
  (.seq (.ops [.o 11 (.bin .eql t7 (ci 8)), .o 10 (.mv t11)])
  (.cond t10
  (.seq (.ops [.o 4 (.mv (ci 5))])
  .ret)
  .skip))))))
  (.seq (.ops [.o 12 (.ld true 18 t2), .o 13 (.ld true 46 t3), .o 14 (.call 20 [t12, t13]), .o 15 (.fld false 1 2 2 t14), .o 4 (.mv t15)])
  .ret)))
theorem hc_report_Class : compF Tryz.prog 16 Tryz.f9 = some (ic_report_Class, [.t 4]) := by kernel_rfl

theorem fn_r21_Class : Tryz.prog.funcs[r21_Class]? = some Tryz.f10 := Tryz.func10
theorem nt_r21_Class : Tryz.f10.ntmps = 19 := Tryz.ntmps10
def ic_r21_Class : IC := (.seq (.ops [.o 2 (.box t0), .o 3 (.box t1), .o 4 (.mv (ci 0))])
  (.seq (.seq (.ops [.o 6 (.fa 4 20 t3), .o 7 (.fa 0 0 t6), .o 8 (.ld false 1 t7), .o 9 (.bin .eql t8 (ci 9))])
  (.cond t9
  (.seq (.ops [.o 4 (.mv (ci 6))])
  .ret)
  .skip))
  (.seq (.seq (.ops [.o 10 (.fa 4 20 t3), .o 11 (.fa 0 0 t10), .o 12 (.ld false 1 t11), .o 13 (.bin .eql t12 (ci 8))])
  (.cond t13
  (.seq (.ops [.o 4 (.mv (ci 5))])
  .ret)
  .skip))
  (.seq (.ops [.o 14 (.ld true 18 t2), .o 15 (.ld true 46 t3), .o 16 (.call 21 [t14, t15]), .o 5 (.alloc (.st (zc (zc (zc (zc (zc (zc (zc (zc (zc (zc (zc (zc (zc (zc (zc (zc (zc (zc (zc (zc (zc .nil))))))))))))))))))))))), .n (.sto 21 t5 t16)])
  (.seq (.ops [.o 17 (.fa 2 2 t5), .o 18 (.ld false 1 t17), .o 4 (.mv t18)])
  .ret)))))
theorem hc_r21_Class : compF Tryz.prog 19 Tryz.f10 = some (ic_r21_Class, [.t 4]) := by kernel_rfl

theorem fn_l21_still : Tryz.prog.funcs[l21_still]? = some Tryz.f11 := Tryz.func11
theorem nt_l21_still : Tryz.f11.ntmps = 168 := Tryz.ntmps11
def ic_l21_still : IC := (.seq (.ops [.o 2 (.box t0), .o 3 (.box t1), .o 4 (.mv (.c (.bool false)))])
  (.seq (.seq (.ops [.o 10 (.fa 0 0 t2), .o 11 (.ld false 1 t10), .o 12 (.fa 0 0 t3), .o 13 (.ld false 1 t12), .o 14 (.bin .neq t11 t13), .o 15 (.mv t14), .og 16 15 false (.fa 1 1 t2), .og 17 15 false (.ld false 1 t16), .og 18 15 false (.len t17), .og 19 15 false (.fa 1 1 t3), .og 20 15 false (.ld false 1 t19), .og 21 15 false (.len t20), .og 22 15 false (.bin .neq t18 t21), .o 23 (.pick t15 (.c (.bool true)) t22), .o 24 (.mv t23), .og 25 24 false (.fa 2 2 t2), .og 26 24 false (.ld false 1 t25), .og 27 24 false (.len t26), .og 28 24 false (.fa 2 2 t3), .og 29 24 false (.ld false 1 t28), .og 30 24 false (.len t29), .og 31 24 false (.bin .neq t27 t30), .o 32 (.pick t24 (.c (.bool true)) t31)])
  (.cond t32
  (.seq (.ops [.o 4 (.mv (.c (.bool false)))])
  .ret)
  .skip))
  (.seq (.seq (.ops [.o 5 (.mv (ci 0))])
  (.block 0 (.loop (.seq (.seq (.ops [.o 33 (.mv t5), .o 34 (.fa 1 1 t2), .o 35 (.ld false 1 t34), .o 36 (.len t35), .o 37 (.bin .lss t33 t36)])
  (.cond t37
  .skip
  (.exit 0)))
  (.seq (.block 1 (.seq (.ops [.o 40 (.fa 1 1 t2), .o 41 (.ld false 1 t40), .o 42 (.mv t5), .o 43 (.ixs 46 t41 t42), .o 44 (.ld true 46 t43), .o 6 (.alloc (.st (zc (.cons (.st (zc (zc (zc (zc (zc (zc .nil))))))) (.cons zs (.cons (.st (.cons (.arr 12 1 fun _ => zi) .nil)) (.cons (.st (zc (zf (zc (zc (zc (zc (zc (zc (zc (zc (zc (zc (zc (zc (zc .nil)))))))))))))))) (zc (zc (zc (.cons (.st (zc (zc (zc (zc (zc .nil)))))) (zf (zc (zc .nil)))))))))))))), .n (.sto 46 t6 t44)])
  (.seq (.ops [.o 45 (.fa 1 1 t3), .o 46 (.ld false 1 t45), .o 47 (.mv t5), .o 48 (.ixs 46 t46 t47), .o 49 (.ld true 46 t48), .o 7 (.alloc (.st (zc (.cons (.st (zc (zc (zc (zc (zc (zc .nil))))))) (.cons zs (.cons (.st (.cons (.arr 12 1 fun _ => zi) .nil)) (.cons (.st (zc (zf (zc (zc (zc (zc (zc (zc (zc (zc (zc (zc (zc (zc (zc .nil)))))))))))))))) (zc (zc (zc (.cons (.st (zc (zc (zc (zc (zc .nil)))))) (zf (zc (zc .nil)))))))))))))), .n (.sto 46 t7 t49)])
  (.seq (.seq (.ops [.o 50 (.fa 0 0 t6), .o 51 (.ld false 1 t50), .o 52 (.fa 0 0 t7), .o 53 (.ld false 1 t52), .o 54 (.bin .neq t51 t53), .o 55 (.mv t54), .og 56 55 false (.fa 1 1 t6), .og 57 55 false (.ld true 6 t56), .og 58 55 false (.fa 1 1 t7), .og 59 55 false (.ld true 6 t58), .og 60 55 false (.eqs true (.st (.cons .int (.cons .int (.cons .int (.cons .int (.cons .int (.cons .int .nil))))))) t57 t59), .o 61 (.pick t55 (.c (.bool true)) t60), .o 62 (.mv t61), .og 63 62 false (.fa 3 8 t6), .og 64 62 false (.ld true 12 t63), .og 65 62 false (.fa 3 8 t7), .og 66 62 false (.ld true 12 t65), .og 67 62 false (.eqs true (.st (.cons (.arr 12 1 .int) .nil)) t64 t66), .o 68 (.pick t62 (.c (.bool true)) t67), .o 69 (.mv t68), .og 70 69 false (.fa 4 20 t6), .og 71 69 false (.ld true 15 t70), .og 72 69 false (.fa 4 20 t7), .og 73 69 false (.ld true 15 t72), .og 74 69 false (.eqs true (.st (.cons .int (.cons .bool (.cons .int (.cons .int (.cons .int (.cons .int (.cons .int (.cons .int (.cons .int (.cons .int (.cons .int (.cons .int (.cons .int (.cons .int (.cons .int .nil)))))))))))))))) t71 t73), .o 75 (.pick t69 (.c (.bool true)) t74), .o 76 (.mv t75), .og 77 76 false (.fa 5 35 t6), .og 78 76 false (.ld false 1 t77), .og 79 76 false (.fa 5 35 t7), .og 80 76 false (.ld false 1 t79), .og 81 76 false (.bin .neq t78 t80), .o 82 (.pick t76 (.c (.bool true)) t81), .o 83 (.mv t82), .og 84 83 false (.fa 6 36 t6), .og 85 83 false (.ld false 1 t84), .og 86 83 false (.fa 6 36 t7), .og 87 83 false (.ld false 1 t86), .og 88 83 false (.bin .neq t85 t87), .o 89 (.pick t83 (.c (.bool true)) t88), .o 90 (.mv t89), .og 91 90 false (.fa 7 37 t6), .og 92 90 false (.ld false 1 t91), .og 93 90 false (.fa 7 37 t7), .og 94 90 false (.ld false 1 t93), .og 95 90 false (.bin .neq t92 t94), .o 96 (.pick t90 (.c (.bool true)) t95), .o 97 (.mv t96), .og 98 97 false (.fa 11 45 t6), .og 99 97 false (.ld false 1 t98), .og 100 97 false (.fa 11 45 t7), .og 101 97 false (.ld false 1 t100), .og 102 97 false (.bin .neq t99 t101), .o 103 (.pick t97 (.c (.bool true)) t102)])
  (.cond t103
  (.seq (.ops [.o 4 (.mv (.c (.bool false)))])
  .ret)
  .skip))
  (.seq (.seq (.ops [.o 104 (.fa 8 38 t6), .o 105 (.ld true 5 t104), .o 106 (.fa 8 38 t7), .o 107 (.ld true 5 t106), .o 108 (.eqs true (.st (.cons .int (.cons .int (.cons .int (.cons .int (.cons .int .nil)))))) t105 t107), .o 109 (.mv t108), .og 110 109 false (.fa 9 43 t6), .og 111 109 false (.ld false 1 t110), .og 112 109 false (.fa 9 43 t7), .og 113 109 false (.ld false 1 t112), .og 114 109 false (.eqv true t111 t113), .o 115 (.pick t109 (.c (.bool true)) t114), .o 116 (.mv t115), .og 117 116 false (.fa 10 44 t6), .og 118 116 false (.ld false 1 t117), .og 119 116 false (.fa 10 44 t7), .og 120 116 false (.ld false 1 t119), .og 121 116 false (.bin .neq t118 t120), .o 122 (.pick t116 (.c (.bool true)) t121), .o 123 (.mv t122), .og 124 123 false (.fa 2 7 t6), .og 125 123 false (.ld false 1 t124), .og 126 123 false (.len t125), .og 127 123 false (.fa 2 7 t7), .og 128 123 false (.ld false 1 t127), .og 129 123 false (.len t128), .og 130 123 false (.bin .neq t126 t129), .o 131 (.pick t123 (.c (.bool true)) t130)])
  (.cond t131
  (.seq (.ops [.o 4 (.mv (.c (.bool false)))])
  .ret)
  .skip))
  (.seq (.ops [.o 8 (.mv (ci 0))])
  (.block 2 (.loop (.seq (.seq (.ops [.o 132 (.mv t8), .o 133 (.fa 2 7 t6), .o 134 (.ld false 1 t133), .o 135 (.len t134), .o 136 (.bin .lss t132 t135)])
  (.cond t136
  .skip
  (.exit 2)))
  (.seq (.block 3 (.seq (.dops [.o 139 (.fa 2 7 t6), .o 140 (.ld false 1 t139), .o 141 (.mv t8), .o 142 (.ixs 4 t140 t141), .o 143 (.ld true 4 t142), .o 144 (.fa 2 7 t7), .o 145 (.ld false 1 t144), .o 146 (.mv t8), .o 147 (.ixs 4 t145 t146), .o 148 (.ld true 4 t147), .o 149 (.eqs true (.st (.cons .int (.cons .int (.cons .int (.cons .bool .nil))))) t143 t148)])
  (.cond t149
  (.seq (.ops [.o 4 (.mv (.c (.bool false)))])
  .ret)
  .skip)))
  (.ops [.o 137 (.mv t8), .o 138 (.bin .add t137 (ci 1)), .o 8 (.mv t138)])))))))))))
  (.ops [.o 38 (.mv t5), .o 39 (.bin .add t38 (ci 1)), .o 5 (.mv t39)]))))))
  (.seq (.seq (.ops [.o 9 (.mv (ci 0))])
  (.block 4 (.loop (.seq (.seq (.ops [.o 150 (.mv t9), .o 151 (.fa 2 2 t2), .o 152 (.ld false 1 t151), .o 153 (.len t152), .o 154 (.bin .lss t150 t153)])
  (.cond t154
  .skip
  (.exit 4)))
  (.seq (.block 5 (.seq (.dops [.o 157 (.fa 2 2 t2), .o 158 (.ld false 1 t157), .o 159 (.mv t9), .o 160 (.ixs 6 t158 t159), .o 161 (.ld true 6 t160), .o 162 (.fa 2 2 t3), .o 163 (.ld false 1 t162), .o 164 (.mv t9), .o 165 (.ixs 6 t163 t164), .o 166 (.ld true 6 t165), .o 167 (.eqs true (.st (.cons .int (.cons .int (.cons .int (.cons .int (.cons .int (.cons .bool .nil))))))) t161 t166)])
  (.cond t167
  (.seq (.ops [.o 4 (.mv (.c (.bool false)))])
  .ret)
  .skip)))
  (.ops [.o 155 (.mv t9), .o 156 (.bin .add t155 (ci 1)), .o 9 (.mv t156)]))))))
  (.seq (.ops [.o 4 (.mv (.c (.bool true)))])
  .ret)))))
theorem hc_l21_still : compF Tryz.prog 168 Tryz.f11 = some (ic_l21_still, [.t 4]) := by kernel_rfl

theorem fn_l21_sameDays : Tryz.prog.funcs[l21_sameDays]? = some Tryz.f12 := Tryz.func12
theorem nt_l21_sameDays : Tryz.f12.ntmps = 26 := Tryz.ntmps12
def ic_l21_sameDays : IC := (.seq (.ops [.o 4 (.mv (.c (.bool false)))])
  (.seq (.seq (.ops [.o 6 (.mv t0), .o 7 (.len t6), .o 8 (.mv t1), .o 9 (.len t8), .o 10 (.bin .neq t7 t9)])
  (.cond t10
  (.seq (.ops [.o 4 (.mv (.c (.bool false)))])
  .ret)
  .skip))
  (.seq (.seq (.ops [.o 5 (.mv (ci 0))])
  (.block 0 (.loop (.seq (.seq (.ops [.o 11 (.mv t5), .o 12 (.mv t0), .o 13 (.len t12), .o 14 (.bin .lss t11 t13)])
  (.cond t14
  .skip
  (.exit 0)))
  (.seq (.block 1 (.seq (.dops [.o 17 (.mv t0), .o 18 (.mv t5), .o 19 (.ixs 1 t17 t18), .o 20 (.ld false 1 t19), .o 21 (.mv t1), .o 22 (.mv t5), .o 23 (.ixs 1 t21 t22), .o 24 (.ld false 1 t23), .o 25 (.bin .neq t20 t24)])
  (.cond t25
  (.seq (.ops [.o 4 (.mv (.c (.bool false)))])
  .ret)
  .skip)))
  (.ops [.o 15 (.mv t5), .o 16 (.bin .add t15 (ci 1)), .o 5 (.mv t16)]))))))
  (.seq (.ops [.o 4 (.mv (.c (.bool true)))])
  .ret))))
theorem hc_l21_sameDays : compF Tryz.prog 26 Tryz.f12 = some (ic_l21_sameDays, [.t 4]) := by kernel_rfl

theorem fn_report_Roll : Tryz.prog.funcs[report_Roll]? = some Tryz.f13 := Tryz.func13
theorem nt_report_Roll : Tryz.f13.ntmps = 57 := Tryz.ntmps13
def ic_report_Roll : IC := (.seq (.ops [.o 3 (.box t0), .o 4 (.box t1), .o 5 (.box t2), .o 6 (.alloc (.arr 7 7 fun _ => (.arr 7 1 fun _ => zi)))])
  (.seq (.ops [.o 15 (.mkm .i64), .o 7 (.mv t15)])
  (.seq (.seq (.ops [.o 16 (.fa 1 1 t5), .o 17 (.ld false 1 t16), .o 18 (.len t17), .o 19 (.mv (ci 0))])
  (.block 0 (.loop (.seq (.ops [.o 20 (.bin .lss t19 t18)])
  (.seq (.cond t20
  .skip
  (.exit 0))
  (.seq (.block 1 (.seq (.ops [.o 21 (.ixs 46 t17 t19), .o 22 (.ld true 46 t21), .o 9 (.alloc (.st (zc (.cons (.st (zc (zc (zc (zc (zc (zc .nil))))))) (.cons zs (.cons (.st (.cons (.arr 12 1 fun _ => zi) .nil)) (.cons (.st (zc (zf (zc (zc (zc (zc (zc (zc (zc (zc (zc (zc (zc (zc (zc .nil)))))))))))))))) (zc (zc (zc (.cons (.st (zc (zc (zc (zc (zc .nil)))))) (zf (zc (zc .nil)))))))))))))), .n (.sto 46 t9 t22)])
  (.dops [.o 23 (.mv t7), .o 24 (.fa 0 0 t9), .o 25 (.ld false 1 t24), .o 26 (.ld true 18 t3), .o 27 (.ld true 46 t9), .o 28 (.call 9 [t26, t27]), .n (.mupd .i64 t23 t25 t28)])))
  (.ops [.o 29 (.bin .add t19 (ci 1)), .o 19 (.mv t29)])))))))
  (.seq (.ops [.o 10 (.alloc (.arr 7 7 fun _ => (.arr 7 1 fun _ => zi)))])
  (.seq (.seq (.ops [.o 30 (.fa 1 1 t4), .o 31 (.ld false 1 t30), .o 32 (.len t31), .o 33 (.mv (ci 0))])
  (.block 2 (.loop (.seq (.ops [.o 34 (.bin .lss t33 t32)])
  (.seq (.cond t34
  .skip
  (.exit 2))
  (.seq (.block 3 (.seq (.ops [.o 35 (.ixs 46 t31 t33), .o 36 (.ld true 46 t35), .o 12 (.alloc (.st (zc (.cons (.st (zc (zc (zc (zc (zc (zc .nil))))))) (.cons zs (.cons (.st (.cons (.arr 12 1 fun _ => zi) .nil)) (.cons (.st (zc (zf (zc (zc (zc (zc (zc (zc (zc (zc (zc (zc (zc (zc (zc .nil)))))))))))))))) (zc (zc (zc (.cons (.st (zc (zc (zc (zc (zc .nil)))))) (zf (zc (zc .nil)))))))))))))), .n (.sto 46 t12 t36)])
  (.seq (.ops [.o 38 (.mv t7), .o 39 (.fa 0 0 t12), .o 40 (.ld false 1 t39), .o 41 (.mget .i64 zi true t38 t40), .o 37 (.mv t41), .o 42 (.ext 0 t37), .o 43 (.ext 1 t37), .o 13 (.mv t42), .o 14 (.mv t43)])
  (.seq (.ops [.o 44 (.mv t14)])
  (.cond t44
  (.dops [.o 45 (.ld true 18 t3), .o 46 (.ld true 46 t12), .o 47 (.call 9 [t45, t46]), .o 48 (.mv t13), .o 49 (.ixa 7 7 t10 t47), .o 50 (.ixa 7 1 t49 t48), .o 51 (.ld false 1 t50), .o 52 (.bin .add t51 (ci 1)), .o 53 (.ixa 7 7 t10 t47), .o 54 (.ixa 7 1 t53 t48), .n (.sto 1 t54 t52)])
  .skip)))))
  (.ops [.o 55 (.bin .add t33 (ci 1)), .o 33 (.mv t55)])))))))
  (.seq (.ops [.o 56 (.ld true 49 t10), .n (.sto 49 t6 t56)])
  .ret))))))
theorem hc_report_Roll : compF Tryz.prog 57 Tryz.f13 = some (ic_report_Roll, [.c 6 true 49]) := by kernel_rfl

theorem fn_r21_Roll : Tryz.prog.funcs[r21_Roll]? = some Tryz.f14 := Tryz.func14
theorem nt_r21_Roll : Tryz.f14.ntmps = 64 := Tryz.ntmps14
def ic_r21_Roll : IC := (.seq (.ops [.o 3 (.box t0), .o 4 (.box t1), .o 5 (.box t2), .o 6 (.alloc (.arr 7 7 fun _ => (.arr 7 1 fun _ => zi)))])
  (.seq (.ops [.o 7 (.alloc (.arr 7 7 fun _ => (.arr 7 1 fun _ => zi)))])
  (.seq (.seq (.ops [.o 8 (.mv (ci 0))])
  (.block 0 (.loop (.seq (.seq (.ops [.o 12 (.mv t8), .o 13 (.fa 1 1 t4), .o 14 (.ld false 1 t13), .o 15 (.len t14), .o 16 (.bin .lss t12 t15)])
  (.cond t16
  .skip
  (.exit 0)))
  (.seq (.block 1 (.seq (.ops [.o 9 (.mv (ci 0))])
  (.block 2 (.loop (.seq (.seq (.ops [.o 19 (.mv t9), .o 20 (.fa 1 1 t5), .o 21 (.ld false 1 t20), .o 22 (.len t21), .o 23 (.bin .lss t19 t22)])
  (.cond t23
  .skip
  (.exit 2)))
  (.seq (.block 3 (.seq (.dops [.o 26 (.fa 1 1 t4), .o 27 (.ld false 1 t26), .o 28 (.mv t8), .o 29 (.ixs 46 t27 t28), .o 30 (.fa 0 0 t29), .o 31 (.ld false 1 t30), .o 32 (.fa 1 1 t5), .o 33 (.ld false 1 t32), .o 34 (.mv t9), .o 35 (.ixs 46 t33 t34), .o 36 (.fa 0 0 t35), .o 37 (.ld false 1 t36), .o 38 (.bin .eql t31 t37)])
  (.cond t38
  (.seq (.dops [.o 39 (.ld true 18 t3), .o 40 (.fa 1 1 t4), .o 41 (.ld false 1 t40), .o 42 (.mv t8), .o 43 (.ixs 46 t41 t42), .o 44 (.ld true 46 t43), .o 45 (.call 10 [t39, t44]), .o 10 (.mv t45)])
  (.seq (.dops [.o 46 (.ld true 18 t3), .o 47 (.fa 1 1 t5), .o 48 (.ld false 1 t47), .o 49 (.mv t9), .o 50 (.ixs 46 t48 t49), .o 51 (.ld true 46 t50), .o 52 (.call 10 [t46, t51]), .o 11 (.mv t52)])
  (.dops [.o 53 (.mv t10), .o 54 (.mv t11), .o 55 (.mv t10), .o 56 (.mv t11), .o 57 (.ixa 7 7 t7 t55), .o 58 (.ixa 7 1 t57 t56), .o 59 (.ld false 1 t58), .o 60 (.bin .add t59 (ci 1)), .o 61 (.ixa 7 7 t7 t53), .o 62 (.ixa 7 1 t61 t54), .n (.sto 1 t62 t60)])))
  .skip)))
  (.ops [.o 24 (.mv t9), .o 25 (.bin .add t24 (ci 1)), .o 9 (.mv t25)])))))))
  (.ops [.o 17 (.mv t8), .o 18 (.bin .add t17 (ci 1)), .o 8 (.mv t18)]))))))
  (.seq (.ops [.o 63 (.ld true 49 t7), .n (.sto 49 t6 t63)])
  .ret))))
theorem hc_r21_Roll : compF Tryz.prog 64 Tryz.f14 = some (ic_r21_Roll, [.c 6 true 49]) := by kernel_rfl

theorem fn_r12_Check : Tryz.prog.funcs[r12_Check]? = some Tryz.f17 := Tryz.func17
theorem nt_r12_Check : Tryz.f17.ntmps = 14 := Tryz.ntmps17
def ic_r12_Check : IC := (.seq (.ops [.o 1 (.box t0), .o 2 (.mv (ci 0)), .o 3 (.mv (ci 0))])
  (.seq (.seq (.ops [.o 4 (.mv (ci 1))])
  (.block 0 (.loop (.seq (.seq (.ops [.o 5 (.mv t4), .o 6 (.bin .leq t5 (ci 18))])
  (.cond t6
  .skip
  (.exit 0)))
  (.seq (.block 1 (.seq (.ops [.o 9 (.ld true 18 t1), .o 10 (.mv t4), .o 11 (.call 28 [t9, t10]), .o 12 (.un .not t11)])
  (.cond t12
  (.seq (.ops [.o 13 (.mv t4), .o 2 (.mv (ci 120)), .o 3 (.mv t13)])
  .ret)
  .skip)))
  (.ops [.o 7 (.mv t4), .o 8 (.bin .add t7 (ci 1)), .o 4 (.mv t8)]))))))
  (.seq (.ops [.o 2 (.mv (ci 0)), .o 3 (.mv (ci 0))])
  .ret)))
theorem hc_r12_Check : compF Tryz.prog 14 Tryz.f17 = some (ic_r12_Check, [.t 2, .t 3]) := by kernel_rfl

theorem fn_r15_Begin : Tryz.prog.funcs[r15_Begin]? = some Tryz.f18 := Tryz.func18
theorem nt_r15_Begin : Tryz.f18.ntmps = 6 := Tryz.ntmps18
def ic_r15_Begin : IC := (.seq (.ops [.o 1 (.box t0), .o 2 (.alloc (.st (zc (.cons zs (.cons zs .nil)))))])
  (.seq (.ops [.o 3 (.fa 0 0 t1), .o 4 (.ld false 1 t3), .o 5 (.build (.st (zc (.cons zs (.cons zs .nil)))) [(0, 0, 1, t4)]), .n (.sto 3 t2 t5)])
  .ret))
theorem hc_r15_Begin : compF Tryz.prog 6 Tryz.f18 = some (ic_r15_Begin, [.c 2 true 3]) := by kernel_rfl

theorem fn_r15_Apply : Tryz.prog.funcs[r15_Apply]? = some Tryz.f19 := Tryz.func19
theorem nt_r15_Apply : Tryz.f19.ntmps = 43 := Tryz.ntmps19
def ic_r15_Apply : IC := (.seq (.ops [.o 3 (.box t0), .o 4 (.box t1), .o 5 (.box t2), .o 6 (.alloc (.st (zc (.cons zs (.cons zs .nil))))), .o 7 (.alloc (.st (zc (.cons zs .nil))))])
  (.seq (.seq (.ops [.o 8 (.fa 0 0 t5), .o 9 (.ld false 1 t8), .o 10 (.bin .eql t9 (ci 1))])
  (.cond t10
  (.seq (.ops [.o 11 (.ld true 18 t3), .o 12 (.ld true 3 t4), .o 13 (.ld true 7 t5), .o 14 (.call 29 [t11, t12, t13]), .o 15 (.ext 0 t14), .o 16 (.ext 1 t14), .n (.sto 3 t6 t15), .n (.sto 2 t7 t16)])
  .ret)
  .skip))
  (.seq (.seq (.ops [.o 17 (.fa 0 0 t5), .o 18 (.ld false 1 t17), .o 19 (.bin .eql t18 (ci 8))])
  (.cond t19
  (.seq (.ops [.o 20 (.ld true 18 t3), .o 21 (.ld true 3 t4), .o 22 (.fa 5 5 t5), .o 23 (.ld false 1 t22), .o 24 (.call 30 [t20, t21, t23]), .o 25 (.ext 0 t24), .o 26 (.ext 1 t24), .n (.sto 3 t6 t25), .n (.sto 2 t7 t26)])
  .ret)
  .skip))
  (.seq (.seq (.ops [.o 27 (.fa 0 0 t5), .o 28 (.ld false 1 t27), .o 29 (.bin .geq t28 (ci 2)), .o 30 (.mv t29), .og 31 30 true (.fa 0 0 t5), .og 32 30 true (.ld false 1 t31), .og 33 30 true (.bin .leq t32 (ci 7)), .o 34 (.pick t30 t33 (.c (.bool false)))])
  (.cond t34
  (.seq (.ops [.o 35 (.ld true 18 t3), .o 36 (.ld true 3 t4), .o 37 (.ld true 7 t5), .o 38 (.call 31 [t35, t36, t37]), .o 39 (.ext 0 t38), .o 40 (.ext 1 t38), .n (.sto 3 t6 t39), .n (.sto 2 t7 t40)])
  .ret)
  .skip))
  (.seq (.dops [.o 41 (.ld true 3 t4), .o 42 (.call 32 [(ci 153)]), .n (.sto 3 t6 t41), .n (.sto 2 t7 t42)])
  .ret)))))
theorem hc_r15_Apply : compF Tryz.prog 43 Tryz.f19 = some (ic_r15_Apply, [.c 6 true 3, .c 7 true 2]) := by kernel_rfl

theorem fn_loan_Look : Tryz.prog.funcs[loan_Look]? = some Tryz.f20 := Tryz.func20
theorem nt_loan_Look : Tryz.f20.ntmps = 93 := Tryz.ntmps20
def ic_loan_Look : IC := (.seq (.ops [.o 2 (.box t0), .o 3 (.box t1), .o 4 (.alloc (.st (zc (zc (zc (zc (zc (zc (zc (zc (zc (zc (zc (zc (zc (zc (zc (zc (zc (zc (zc (zc (zc .nil)))))))))))))))))))))))])
  (.seq (.ops [.o 12 (.mkf (.func 33) [] [t4]), .n (.dfr t12)])
  (.seq (.ops [.o 14 (.ld true 18 t2), .o 15 (.call 34 [t14]), .o 13 (.mv t15), .o 16 (.ext 0 t13), .o 17 (.ext 1 t13), .o 5 (.mv t16), .o 6 (.mv t17)])
  (.seq (.ops [.o 18 (.mv t5), .o 19 (.call 35 [t18])])
  (.seq (.dopr 3 [(.o 20 (.ld true 46 t3), []), (.o 21 (.call 36 [t20]), []), (.o 22 (.ld true 46 t3), []), (.o 23 (.call 37 [t22]), []), (.o 24 (.fa 4 20 t3), []), (.o 25 (.ld true 15 t24), [3, 2]), (.o 7 (.alcN 3 (.st (zc (zc (zc .nil))))), []), (.o 8 (.alcN 2 (.st (zc (zc .nil)))), []), (.o 9 (.alcN 1 (.st (zc (zf (zc (zc (zc (zc (zc (zc (zc (zc (zc (zc (zc (zc (zc .nil))))))))))))))))), []), (.n (.stoN 3 3 t7 t21), []), (.n (.stoN 2 2 t8 t23), []), (.n (.stoN 1 15 t9 t25), [])])
  (.seq (.dops [.o 26 (.fa 0 0 t9), .o 27 (.ld false 1 t26), .o 28 (.fa 2 7 t3), .o 29 (.ld false 1 t28), .o 30 (.ld true 2 t8), .o 31 (.fa 5 35 t3), .o 32 (.ld false 1 t31), .o 33 (.call 38 [t29, t30, t32]), .o 34 (.fa 2 7 t3), .o 35 (.ld false 1 t34), .o 36 (.ld true 2 t8), .o 37 (.fa 5 35 t3), .o 38 (.ld false 1 t37), .o 39 (.call 39 [t35, t36, t38]), .o 40 (.fa 0 0 t7), .o 41 (.ld false 1 t40), .o 42 (.fa 1 1 t7), .o 43 (.ld false 1 t42), .o 44 (.fa 2 2 t7), .o 45 (.ld false 1 t44), .o 46 (.ld true 46 t3), .o 47 (.call 40 [t46, (ci 4)]), .o 48 (.ld true 46 t3), .o 49 (.call 40 [t48, (ci 5)]), .o 50 (.fa 2 2 t9), .o 51 (.ld false 1 t50), .o 52 (.fa 11 11 t9), .o 53 (.ld false 1 t52), .o 54 (.fa 9 9 t9), .o 55 (.ld false 1 t54), .o 56 (.fa 10 10 t9), .o 57 (.ld false 1 t56), .o 58 (.fa 12 12 t9), .o 59 (.ld false 1 t58), .o 60 (.fa 5 5 t9), .o 61 (.ld false 1 t60), .o 62 (.fa 6 6 t9), .o 63 (.ld false 1 t62), .o 64 (.fa 4 4 t9), .o 65 (.ld false 1 t64), .o 66 (.fa 14 14 t9), .o 67 (.ld false 1 t66), .o 68 (.fa 10 44 t3), .o 69 (.ld false 1 t68), .o 70 (.ld true 46 t3), .o 71 (.call 40 [t70, (ci 10)]), .o 72 (.build (.st (zc (zc (zc (zc (zc (zc (zc (zc (zc (zc (zc (zc (zc (zc (zc (zc (zc (zc (zc (zc (zc .nil)))))))))))))))))))))) [(0, 0, 1, t27), (1, 1, 1, t33), (3, 3, 1, t39), (4, 4, 1, t41), (5, 5, 1, t43), (6, 6, 1, t45), (7, 7, 1, t47), (8, 8, 1, t49), (9, 9, 1, t51), (10, 10, 1, t53), (11, 11, 1, t55), (12, 12, 1, t57), (13, 13, 1, t59), (14, 14, 1, t61), (15, 15, 1, t63), (16, 16, 1, t65), (18, 18, 1, t67), (19, 19, 1, t69), (20, 20, 1, t71)]), .n (.sto 21 t4 t72)])
  (.seq (.ops [.o 73 (.fa 1 1 t4), .o 74 (.ld false 1 t73), .o 75 (.call 41 [t74]), .o 76 (.fa 2 2 t4), .n (.sto 1 t76 t75)])
  (.seq (.seq (.ops [.o 78 (.fa 2 7 t3), .o 79 (.ld false 1 t78), .o 80 (.ld true 2 t8), .o 81 (.call 42 [t79, t80]), .o 77 (.mv t81), .o 82 (.ext 0 t77), .o 83 (.ext 1 t77), .o 10 (.mv t82), .o 11 (.mv t83)])
  (.seq (.ops [.o 84 (.mv t11)])
  (.cond t84
  (.ops [.o 85 (.fa 2 7 t3), .o 86 (.ld false 1 t85), .o 87 (.mv t10), .o 88 (.ixs 4 t86 t87), .o 89 (.fa 0 0 t88), .o 90 (.ld false 1 t89), .o 91 (.fa 17 17 t4), .n (.sto 1 t91 t90)])
  .skip)))
  (.seq (.ops [.o 92 (.ld true 21 t4), .n (.sto 21 t4 t92)])
  .ret)))))))))
theorem hc_loan_Look : compF Tryz.prog 93 Tryz.f20 = some (ic_loan_Look, [.c 4 true 21]) := by kernel_rfl

theorem fn_r14_Look : Tryz.prog.funcs[r14_Look]? = some Tryz.f21 := Tryz.func21
theorem nt_r14_Look : Tryz.f21.ntmps = 97 := Tryz.ntmps21
def ic_r14_Look : IC := (.seq (.ops [.o 2 (.box t0), .o 3 (.box t1), .o 4 (.alloc (.st (zc (zc (zc (zc (zc (zc (zc (zc (zc (zc (zc (zc (zc (zc (zc (zc (zc (zc (zc (zc (zc .nil)))))))))))))))))))))))])
  (.seq (.ops [.o 12 (.ld true 18 t2), .o 13 (.call 17 [t12]), .o 11 (.mv t13), .o 14 (.ext 0 t11), .o 15 (.ext 1 t11), .o 5 (.mv t14), .o 6 (.mv t15)])
  (.seq (.seq (.ops [.o 16 (.mv t5), .o 17 (.bin .neq t16 (ci 0))])
  (.cond t17
  (.seq (.ops [.o 18 (.build (.st (zc (zc (zc (zc (zc (zc (zc (zc (zc (zc (zc (zc (zc (zc (zc (zc (zc (zc (zc (zc (zc .nil)))))))))))))))))))))) []), .n (.sto 21 t4 t18)])
  .ret)
  .skip))
  (.seq (.ops [.o 19 (.fa 4 20 t3), .o 20 (.ld true 15 t19), .o 7 (.alloc (.st (zc (zf (zc (zc (zc (zc (zc (zc (zc (zc (zc (zc (zc (zc (zc .nil))))))))))))))))), .n (.sto 15 t7 t20)])
  (.seq (.dops [.o 21 (.fa 0 0 t7), .o 22 (.ld false 1 t21), .o 23 (.ld true 46 t3), .o 24 (.call 43 [t23]), .o 25 (.ld true 46 t3), .o 26 (.call 44 [t25]), .o 27 (.build (.st (zc (zc (zc (zc (zc (zc (zc (zc (zc (zc (zc (zc (zc (zc (zc (zc (zc (zc (zc (zc (zc .nil)))))))))))))))))))))) [(0, 0, 1, t22), (1, 1, 1, t24), (3, 3, 1, t26)]), .o 8 (.alloc (.st (zc (zc (zc (zc (zc (zc (zc (zc (zc (zc (zc (zc (zc (zc (zc (zc (zc (zc (zc (zc (zc .nil))))))))))))))))))))))), .n (.sto 21 t8 t27)])
  (.seq (.ops [.o 28 (.fa 1 1 t8), .o 29 (.ld false 1 t28), .o 30 (.call 45 [t29]), .o 31 (.fa 2 2 t8), .n (.sto 1 t31 t30)])
  (.seq (.ops [.o 32 (.ld true 46 t3), .o 33 (.call 46 [t32, (ci 3)]), .o 34 (.fa 4 4 t8), .n (.sto 1 t34 t33)])
  (.seq (.ops [.o 35 (.ld true 46 t3), .o 36 (.call 46 [t35, (ci 2)]), .o 37 (.fa 5 5 t8), .n (.sto 1 t37 t36)])
  (.seq (.ops [.o 38 (.ld true 46 t3), .o 39 (.call 46 [t38, (ci 1)]), .o 40 (.fa 6 6 t8), .n (.sto 1 t40 t39)])
  (.seq (.ops [.o 41 (.ld true 46 t3), .o 42 (.call 46 [t41, (ci 4)]), .o 43 (.fa 7 7 t8), .n (.sto 1 t43 t42)])
  (.seq (.ops [.o 44 (.ld true 46 t3), .o 45 (.call 46 [t44, (ci 5)]), .o 46 (.fa 8 8 t8), .n (.sto 1 t46 t45)])
  (.seq (.ops [.o 47 (.fa 2 2 t7), .o 48 (.ld false 1 t47), .o 49 (.fa 9 9 t8), .n (.sto 1 t49 t48)])
  (.seq (.ops [.o 50 (.fa 11 11 t7), .o 51 (.ld false 1 t50), .o 52 (.fa 10 10 t8), .n (.sto 1 t52 t51)])
  (.seq (.ops [.o 53 (.fa 9 9 t7), .o 54 (.ld false 1 t53), .o 55 (.fa 11 11 t8), .n (.sto 1 t55 t54)])
  (.seq (.ops [.o 56 (.fa 10 10 t7), .o 57 (.ld false 1 t56), .o 58 (.fa 12 12 t8), .n (.sto 1 t58 t57)])
  (.seq (.ops [.o 59 (.fa 12 12 t7), .o 60 (.ld false 1 t59), .o 61 (.fa 13 13 t8), .n (.sto 1 t61 t60)])
  (.seq (.ops [.o 62 (.fa 5 5 t7), .o 63 (.ld false 1 t62), .o 64 (.fa 14 14 t8), .n (.sto 1 t64 t63)])
  (.seq (.ops [.o 65 (.fa 6 6 t7), .o 66 (.ld false 1 t65), .o 67 (.fa 15 15 t8), .n (.sto 1 t67 t66)])
  (.seq (.ops [.o 68 (.fa 4 4 t7), .o 69 (.ld false 1 t68), .o 70 (.fa 16 16 t8), .n (.sto 1 t70 t69)])
  (.seq (.dops [.o 72 (.fa 2 7 t3), .o 73 (.ld false 1 t72), .o 74 (.ld true 46 t3), .o 75 (.call 48 [t74]), .o 76 (.call 47 [t73, t75]), .o 71 (.mv t76), .o 77 (.ext 0 t71), .o 78 (.ext 1 t71), .o 9 (.mv t77), .o 10 (.mv t78)])
  (.seq (.seq (.ops [.o 79 (.mv t10)])
  (.cond t79
  (.ops [.o 80 (.fa 2 7 t3), .o 81 (.ld false 1 t80), .o 82 (.mv t9), .o 83 (.ixs 4 t81 t82), .o 84 (.fa 0 0 t83), .o 85 (.ld false 1 t84), .o 86 (.fa 17 17 t8), .n (.sto 1 t86 t85)])
  .skip))
  (.seq (.ops [.o 87 (.fa 14 14 t7), .o 88 (.ld false 1 t87), .o 89 (.fa 18 18 t8), .n (.sto 1 t89 t88)])
  (.seq (.ops [.o 90 (.fa 10 44 t3), .o 91 (.ld false 1 t90), .o 92 (.fa 19 19 t8), .n (.sto 1 t92 t91)])
  (.seq (.ops [.o 93 (.ld true 46 t3), .o 94 (.call 46 [t93, (ci 10)]), .o 95 (.fa 20 20 t8), .n (.sto 1 t95 t94)])
  (.seq (.ops [.o 96 (.ld true 21 t8), .n (.sto 21 t4 t96)])
  .ret)))))))))))))))))))))))))
theorem hc_r14_Look : compF Tryz.prog 97 Tryz.f21 = some (ic_r14_Look, [.c 4 true 21]) := by kernel_rfl

theorem fn_r1_Sum : Tryz.prog.funcs[r1_Sum]? = some Tryz.f26 := Tryz.func26
theorem nt_r1_Sum : Tryz.f26.ntmps = 32 := Tryz.ntmps26
def ic_r1_Sum : IC := (.seq (.ops [.o 2 (.mv (ci 0)), .o 3 (.mv (.c (.bool false)))])
  (.seq (.ops [.o 4 (.mv (ci 0)), .o 5 (.mv (ci 0))])
  (.seq (.seq (.ops [.o 6 (.mv (ci 0))])
  (.block 0 (.loop (.seq (.seq (.ops [.o 7 (.mv t6), .o 8 (.mv t0), .o 9 (.len t8), .o 10 (.bin .lss t7 t9)])
  (.cond t10
  .skip
  (.exit 0)))
  (.seq (.block 1 (.seq (.ops [.o 13 (.mv t4), .o 14 (.mv t0), .o 15 (.mv t6), .o 16 (.ixs 1 t14 t15), .o 17 (.ld false 1 t16), .o 18 (.call 50 [t17]), .o 19 (.bin .add t13 t18), .o 4 (.mv t19)])
  (.ops [.o 20 (.mv t5), .o 21 (.mv t0), .o 22 (.mv t6), .o 23 (.ixs 1 t21 t22), .o 24 (.ld false 1 t23), .o 25 (.call 51 [t24]), .o 26 (.bin .add t20 t25), .o 5 (.mv t26)])))
  (.ops [.o 11 (.mv t6), .o 12 (.bin .add t11 (ci 1)), .o 6 (.mv t12)]))))))
  (.seq (.ops [.o 27 (.mv t4), .o 28 (.mv t5), .o 29 (.call 52 [t27, t28]), .o 30 (.ext 0 t29), .o 31 (.ext 1 t29), .o 2 (.mv t30), .o 3 (.mv t31)])
  .ret))))
theorem hc_r1_Sum : compF Tryz.prog 32 Tryz.f26 = some (ic_r1_Sum, [.t 2, .t 3]) := by kernel_rfl

theorem fn_r1_Bps : Tryz.prog.funcs[r1_Bps]? = some Tryz.f27 := Tryz.func27
theorem nt_r1_Bps : Tryz.f27.ntmps = 11 := Tryz.ntmps27
def ic_r1_Bps : IC := (.seq (.ops [.o 4 (.mv (ci 0)), .o 5 (.mv (.c (.bool false)))])
  (.seq (.ops [.o 6 (.mv t0), .o 7 (.mv t1), .o 8 (.call 53 [t6, t7, (ci 10000)]), .o 9 (.ext 0 t8), .o 10 (.ext 1 t8), .o 4 (.mv t9), .o 5 (.mv t10)])
  .ret))
theorem hc_r1_Bps : compF Tryz.prog 11 Tryz.f27 = some (ic_r1_Bps, [.t 4, .t 5]) := by kernel_rfl

theorem fn_r12_may : Tryz.prog.funcs[r12_may]? = some Tryz.f28 := Tryz.func28
theorem nt_r12_may : Tryz.f28.ntmps = 105 := Tryz.ntmps28
def ic_r12_may : IC := (.seq (.ops [.o 2 (.box t0), .o 4 (.mv (.c (.bool false)))])
  (.seq (.seq (.ops [.o 5 (.mv t1)])
  (.block 0 (.seq (.ops [.o 7 (.bin .eql t5 (ci 1)), .o 6 (.mv t7)])
  (.cond t6
  (.seq (.ops [.o 8 (.fa 0 0 t2), .o 9 (.ld false 1 t8), .o 10 (.call 54 [t9, (ci 1), (ci 3652059)]), .o 4 (.mv t10)])
  .ret)
  (.seq (.ops [.o 12 (.bin .eql t5 (ci 2)), .o 11 (.mv t12)])
  (.cond t11
  (.seq (.ops [.o 13 (.fa 1 1 t2), .o 14 (.ld false 1 t13), .o 15 (.call 54 [t14, (ci 0), (ci 30)]), .o 4 (.mv t15)])
  .ret)
  (.seq (.ops [.o 17 (.bin .eql t5 (ci 3)), .o 16 (.mv t17)])
  (.cond t16
  (.seq (.ops [.o 18 (.fa 2 2 t2), .o 19 (.ld false 1 t18), .o 20 (.fa 1 1 t2), .o 21 (.ld false 1 t20), .o 22 (.bin .gtr t19 t21), .o 23 (.mv t22), .og 24 23 true (.fa 2 2 t2), .og 25 23 true (.ld false 1 t24), .og 26 23 true (.bin .leq t25 (ci 365)), .o 27 (.pick t23 t26 (.c (.bool false))), .o 4 (.mv t27)])
  .ret)
  (.seq (.ops [.o 29 (.bin .eql t5 (ci 4)), .o 28 (.mv t29)])
  (.cond t28
  (.seq (.ops [.o 30 (.fa 3 3 t2), .o 31 (.ld false 1 t30), .o 32 (.call 54 [t31, (ci 1), (ci 365)]), .o 4 (.mv t32)])
  .ret)
  (.seq (.ops [.o 34 (.bin .eql t5 (ci 5)), .o 33 (.mv t34)])
  (.cond t33
  (.seq (.ops [.o 35 (.fa 4 4 t2), .o 36 (.ld false 1 t35), .o 37 (.call 54 [t36, (ci 0), (ci 10000)]), .o 4 (.mv t37)])
  .ret)
  (.seq (.ops [.o 39 (.bin .eql t5 (ci 6)), .o 38 (.mv t39)])
  (.cond t38
  (.seq (.ops [.o 40 (.fa 5 5 t2), .o 41 (.ld false 1 t40), .o 42 (.call 54 [t41, (ci 0), (ci 1000000000)]), .o 4 (.mv t42)])
  .ret)
  (.seq (.ops [.o 44 (.bin .eql t5 (ci 7)), .o 43 (.mv t44)])
  (.cond t43
  (.seq (.ops [.o 45 (.fa 6 6 t2), .o 46 (.ld false 1 t45), .o 47 (.fa 5 5 t2), .o 48 (.ld false 1 t47), .o 49 (.call 54 [t46, t48, (ci 1000000000)]), .o 4 (.mv t49)])
  .ret)
  (.seq (.ops [.o 51 (.bin .eql t5 (ci 8)), .o 50 (.mv t51)])
  (.cond t50
  (.seq (.ops [.o 52 (.fa 7 7 t2), .o 53 (.ld false 1 t52), .o 54 (.call 54 [t53, (ci 0), (ci 1000000000)]), .o 4 (.mv t54)])
  .ret)
  (.seq (.ops [.o 56 (.bin .eql t5 (ci 9)), .o 55 (.mv t56)])
  (.cond t55
  (.seq (.ops [.o 57 (.fa 8 8 t2), .o 58 (.ld false 1 t57), .o 59 (.call 54 [t58, (ci 0), (ci 1000000000)]), .o 4 (.mv t59)])
  .ret)
  (.seq (.ops [.o 61 (.bin .eql t5 (ci 10)), .o 60 (.mv t61)])
  (.cond t60
  (.seq (.ops [.o 62 (.fa 9 9 t2), .o 63 (.ld false 1 t62), .o 64 (.call 54 [t63, (ci 0), (ci 8)]), .o 4 (.mv t64)])
  .ret)
  (.seq (.ops [.o 66 (.bin .eql t5 (ci 11)), .o 65 (.mv t66)])
  (.cond t65
  (.seq (.ops [.o 67 (.fa 10 10 t2), .o 68 (.ld false 1 t67), .o 69 (.call 54 [t68, (ci 1), (ci 60)]), .o 4 (.mv t69)])
  .ret)
  (.seq (.ops [.o 71 (.bin .eql t5 (ci 12)), .o 70 (.mv t71)])
  (.cond t70
  (.seq (.ops [.o 72 (.fa 11 11 t2), .o 73 (.ld false 1 t72), .o 74 (.call 54 [t73, (ci 0), (ci 4)]), .o 4 (.mv t74)])
  .ret)
  (.seq (.ops [.o 76 (.bin .eql t5 (ci 13)), .o 75 (.mv t76)])
  (.cond t75
  (.seq (.ops [.o 77 (.fa 12 12 t2), .o 78 (.ld false 1 t77), .o 79 (.call 54 [t78, (ci 0), (ci 5)]), .o 4 (.mv t79)])
  .ret)
  (.seq (.ops [.o 81 (.bin .eql t5 (ci 14)), .o 80 (.mv t81)])
  (.cond t80
  (.seq (.ops [.o 82 (.fa 13 13 t2), .o 83 (.ld false 1 t82), .o 84 (.call 54 [t83, (ci 0), (ci 3)]), .o 4 (.mv t84)])
  .ret)
  (.seq (.ops [.o 86 (.bin .eql t5 (ci 15)), .o 85 (.mv t86)])
  (.cond t85
  (.seq (.ops [.o 87 (.fa 14 14 t2), .o 88 (.ld false 1 t87), .o 89 (.call 54 [t88, (ci 1), (ci 64)]), .o 4 (.mv t89)])
  .ret)
  (.seq (.ops [.o 91 (.bin .eql t5 (ci 16)), .o 90 (.mv t91)])
  (.cond t90
  (.seq (.ops [.o 92 (.fa 15 15 t2), .o 93 (.ld false 1 t92), .o 94 (.fa 14 14 t2), .o 95 (.ld false 1 t94), .o 96 (.call 54 [t93, t95, (ci 64)]), .o 4 (.mv t96)])
  .ret)
  (.seq (.ops [.o 98 (.bin .eql t5 (ci 17)), .o 97 (.mv t98)])
  (.cond t97
  (.seq (.ops [.o 99 (.fa 16 16 t2), .o 100 (.ld false 1 t99), .o 101 (.call 54 [t100, (ci 0), (ci 1000)]), .o 4 (.mv t101)])
  .ret)
  .skip))))))))))))))))))))))))))))))))))))
  (.seq (.ops [.o 102 (.fa 17 17 t2), .o 103 (.ld false 1 t102), .o 104 (.call 55 [t103]), .o 4 (.mv t104)])
  .ret)))
theorem hc_r12_may : compF Tryz.prog 105 Tryz.f28 = some (ic_r12_may, [.t 4]) := by kernel_rfl

theorem fn_r15_opened : Tryz.prog.funcs[r15_opened]? = some Tryz.f29 := Tryz.func29
theorem nt_r15_opened : Tryz.f29.ntmps = 122 := Tryz.ntmps29
def ic_r15_opened : IC := (.seq (.ops [.o 3 (.box t0), .o 4 (.box t1), .o 5 (.box t2), .o 6 (.alloc (.st (zc (.cons zs (.cons zs .nil))))), .o 7 (.alloc (.st (zc (.cons zs .nil))))])
  (.seq (.seq (.ops [.o 12 (.fa 1 1 t5), .o 13 (.ld false 1 t12), .o 14 (.bin .lss t13 (ci 1)), .o 15 (.mv t14), .og 16 15 false (.fa 1 1 t5), .og 17 15 false (.ld false 1 t16), .og 18 15 false (.bin .gtr t17 (ci 999999)), .o 19 (.pick t15 (.c (.bool true)) t18)])
  (.cond t19
  (.seq (.dops [.o 20 (.ld true 3 t4), .o 21 (.call 32 [(ci 2)]), .n (.sto 3 t6 t20), .n (.sto 2 t7 t21)])
  .ret)
  .skip))
  (.seq (.seq (.ops [.o 22 (.ld true 3 t4), .o 23 (.fa 1 1 t5), .o 24 (.ld false 1 t23), .o 25 (.call 56 [t22, t24]), .o 26 (.bin .geq t25 (ci 0))])
  (.cond t26
  (.seq (.dops [.o 27 (.ld true 3 t4), .o 28 (.call 32 [(ci 151)]), .n (.sto 3 t6 t27), .n (.sto 2 t7 t28)])
  .ret)
  .skip))
  (.seq (.seq (.ops [.o 29 (.fa 1 1 t4), .o 30 (.ld false 1 t29), .o 31 (.len t30), .o 32 (.bin .geq t31 (ci 32))])
  (.cond t32
  (.seq (.dops [.o 33 (.ld true 3 t4), .o 34 (.call 32 [(ci 152)]), .n (.sto 3 t6 t33), .n (.sto 2 t7 t34)])
  .ret)
  .skip))
  (.seq (.ops [.o 35 (.ld true 18 t3), .o 36 (.fa 1 1 t5), .o 37 (.ld false 1 t36), .o 38 (.fa 5 5 t5), .o 39 (.ld false 1 t38), .o 40 (.fa 2 2 t5), .o 41 (.ld false 1 t40), .o 42 (.fa 3 3 t5), .o 43 (.ld false 1 t42), .o 44 (.fa 4 4 t5), .o 45 (.ld false 1 t44), .o 46 (.fa 0 0 t4), .o 47 (.ld false 1 t46), .o 48 (.fa 13 13 t3), .o 49 (.ld false 1 t48), .o 50 (.build (.st (zc (zc (zc (zc (zc (zc .nil))))))) [(0, 0, 1, t39), (1, 1, 1, t41), (2, 2, 1, t43), (3, 3, 1, t45), (4, 4, 1, t47), (5, 5, 1, t49)]), .o 51 (.call 57 [t35, t37, t50]), .o 8 (.alloc (.st (.cons (.st (zc (.cons (.st (zc (zc (zc (zc (zc (zc .nil))))))) (.cons zs (.cons (.st (.cons (.arr 12 1 fun _ => zi) .nil)) (.cons (.st (zc (zf (zc (zc (zc (zc (zc (zc (zc (zc (zc (zc (zc (zc (zc .nil)))))))))))))))) (zc (zc (zc (.cons (.st (zc (zc (zc (zc (zc .nil)))))) (zf (zc (zc .nil))))))))))))) (.cons (.st (zc (zc (zc (zc (zc .nil)))))) (.cons zs (zc .nil)))))), .n (.sto 53 t8 t51)])
  (.seq (.seq (.ops [.o 52 (.fa 3 52 t8), .o 53 (.ld false 1 t52), .o 54 (.bin .neq t53 (ci 0))])
  (.cond t54
  (.seq (.dopss [(.o 55 (.ld true 3 t4), []), (.o 56 (.fa 3 52 t8), []), (.o 57 (.ld false 1 t56), [6]), (.o 58 (.build (.st (zc (.cons zs .nil))) [(0, 0, 1, t57)]), []), (.n (.sto 3 t6 t55), []), (.n (.sto 2 t7 t58), [])])
  .ret)
  .skip))
  (.seq (.ops [.o 9 (.mv (.c (.slice none 0 0)))])
  (.seq (.seq (.ops [.o 10 (.mv (ci 0))])
  (.block 0 (.loop (.seq (.seq (.ops [.o 59 (.mv t10), .o 60 (.fa 1 1 t4), .o 61 (.ld false 1 t60), .o 62 (.len t61), .o 63 (.bin .lss t59 t62)])
  (.cond t63
  .skip
  (.exit 0)))
  (.seq (.block 1 (.seq (.dops [.o 66 (.fa 1 1 t4), .o 67 (.ld false 1 t66), .o 68 (.mv t10), .o 69 (.ixs 46 t67 t68), .o 70 (.fa 0 0 t69), .o 71 (.ld false 1 t70), .o 72 (.fa 1 1 t5), .o 73 (.ld false 1 t72), .o 74 (.bin .lss t71 t73)])
  (.cond t74
  (.ops [.o 75 (.mv t9), .o 76 (.fa 1 1 t4), .o 77 (.ld false 1 t76), .o 78 (.mv t10), .o 79 (.ixs 46 t77 t78), .o 80 (.ld true 46 t79), .o 81 (.bsl 46 45 (.st (zc (.cons (.st (zc (zc (zc (zc (zc (zc .nil))))))) (.cons zs (.cons (.st (.cons (.arr 12 1 fun _ => zi) .nil)) (.cons (.st (zc (zf (zc (zc (zc (zc (zc (zc (zc (zc (zc (zc (zc (zc (zc .nil)))))))))))))))) (zc (zc (zc (.cons (.st (zc (zc (zc (zc (zc .nil)))))) (zf (zc (zc .nil))))))))))))) [(0, 0, 46, t80)]), .o 82 (.app 46 384 45 t75 t81), .o 9 (.mv t82)])
  .skip)))
  (.ops [.o 64 (.mv t10), .o 65 (.bin .add t64 (ci 1)), .o 10 (.mv t65)]))))))
  (.seq (.ops [.o 83 (.mv t9), .o 84 (.fa 0 0 t8), .o 85 (.ld true 46 t84), .o 86 (.bsl 46 45 (.st (zc (.cons (.st (zc (zc (zc (zc (zc (zc .nil))))))) (.cons zs (.cons (.st (.cons (.arr 12 1 fun _ => zi) .nil)) (.cons (.st (zc (zf (zc (zc (zc (zc (zc (zc (zc (zc (zc (zc (zc (zc (zc .nil)))))))))))))))) (zc (zc (zc (.cons (.st (zc (zc (zc (zc (zc .nil)))))) (zf (zc (zc .nil))))))))))))) [(0, 0, 46, t85)]), .o 87 (.app 46 384 45 t83 t86), .o 9 (.mv t87)])
  (.seq (.seq (.ops [.o 11 (.mv (ci 0))])
  (.block 2 (.loop (.seq (.seq (.ops [.o 88 (.mv t11), .o 89 (.fa 1 1 t4), .o 90 (.ld false 1 t89), .o 91 (.len t90), .o 92 (.bin .lss t88 t91)])
  (.cond t92
  .skip
  (.exit 2)))
  (.seq (.block 3 (.seq (.dops [.o 95 (.fa 1 1 t4), .o 96 (.ld false 1 t95), .o 97 (.mv t11), .o 98 (.ixs 46 t96 t97), .o 99 (.fa 0 0 t98), .o 100 (.ld false 1 t99), .o 101 (.fa 1 1 t5), .o 102 (.ld false 1 t101), .o 103 (.bin .gtr t100 t102)])
  (.cond t103
  (.ops [.o 104 (.mv t9), .o 105 (.fa 1 1 t4), .o 106 (.ld false 1 t105), .o 107 (.mv t11), .o 108 (.ixs 46 t106 t107), .o 109 (.ld true 46 t108), .o 110 (.bsl 46 45 (.st (zc (.cons (.st (zc (zc (zc (zc (zc (zc .nil))))))) (.cons zs (.cons (.st (.cons (.arr 12 1 fun _ => zi) .nil)) (.cons (.st (zc (zf (zc (zc (zc (zc (zc (zc (zc (zc (zc (zc (zc (zc (zc .nil)))))))))))))))) (zc (zc (zc (.cons (.st (zc (zc (zc (zc (zc .nil)))))) (zf (zc (zc .nil))))))))))))) [(0, 0, 46, t109)]), .o 111 (.app 46 384 45 t104 t110), .o 9 (.mv t111)])
  .skip)))
  (.ops [.o 93 (.mv t11), .o 94 (.bin .add t93 (ci 1)), .o 11 (.mv t94)]))))))
  (.seq (.ops [.o 112 (.mv t9), .o 113 (.fa 1 1 t4), .n (.sto 1 t113 t112)])
  (.seq (.dops [.o 114 (.ld true 3 t4), .o 115 (.fa 2 51 t8), .o 116 (.ld false 1 t115), .o 117 (.call 58 [t114, t116]), .o 118 (.fa 0 0 t8), .o 119 (.ld true 46 t118), .o 120 (.call 59 [t119]), .o 121 (.build (.st (zc (.cons zs .nil))) [(1, 1, 1, t120)]), .n (.sto 3 t6 t117), .n (.sto 2 t7 t121)])
  .ret))))))))))))
theorem hc_r15_opened : compF Tryz.prog 122 Tryz.f29 = some (ic_r15_opened, [.c 6 true 3, .c 7 true 2]) := by kernel_rfl

theorem fn_r15_days : Tryz.prog.funcs[r15_days]? = some Tryz.f30 := Tryz.func30
theorem nt_r15_days : Tryz.f30.ntmps = 61 := Tryz.ntmps30
def ic_r15_days : IC := (.seq (.ops [.o 3 (.box t0), .o 4 (.box t1), .o 6 (.alloc (.st (zc (.cons zs (.cons zs .nil))))), .o 7 (.alloc (.st (zc (.cons zs .nil))))])
  (.seq (.seq (.ops [.o 13 (.mv t2), .o 14 (.bin .lss t13 (ci 1)), .o 15 (.mv t14), .og 16 15 false (.mv t2), .og 17 15 false (.bin .gtr t16 (ci 60)), .o 18 (.pick t15 (.c (.bool true)) t17)])
  (.cond t18
  (.seq (.dops [.o 19 (.ld true 3 t4), .o 20 (.call 32 [(ci 2)]), .n (.sto 3 t6 t19), .n (.sto 2 t7 t20)])
  .ret)
  .skip))
  (.seq (.seq (.ops [.o 21 (.fa 0 0 t4), .o 22 (.ld false 1 t21), .o 23 (.mv t2), .o 24 (.bin .sub (ci 3652059) t23), .o 25 (.bin .gtr t22 t24)])
  (.cond t25
  (.seq (.dops [.o 26 (.ld true 3 t4), .o 27 (.call 32 [(ci 141)]), .n (.sto 3 t6 t26), .n (.sto 2 t7 t27)])
  .ret)
  .skip))
  (.seq (.ops [.o 28 (.ld true 3 t4), .o 8 (.alloc (.st (zc (.cons zs (.cons zs .nil))))), .n (.sto 3 t8 t28)])
  (.seq (.seq (.ops [.o 9 (.mv (ci 0))])
  (.block 0 (.loop (.seq (.seq (.ops [.o 29 (.mv t9), .o 30 (.mv t2), .o 31 (.bin .lss t29 t30)])
  (.cond t31
  .skip
  (.exit 0)))
  (.seq (.block 1 (.seq (.ops [.o 35 (.ld true 18 t3), .o 36 (.ld true 3 t8), .o 37 (.call 60 [t35, t36]), .o 34 (.mv t37), .o 38 (.ext 0 t34), .o 39 (.ext 1 t34), .o 10 (.alloc (.st (zc (.cons zs (.cons zs .nil))))), .n (.sto 3 t10 t38), .o 11 (.mv t39)])
  (.seq (.seq (.ops [.o 40 (.mv t11), .o 41 (.bin .neq t40 (ci 0))])
  (.cond t41
  (.seq (.ops [.o 42 (.ld true 3 t4), .o 43 (.mv t11), .o 44 (.build (.st (zc (.cons zs .nil))) [(0, 0, 1, t43)]), .n (.sto 3 t6 t42), .n (.sto 2 t7 t44)])
  .ret)
  .skip))
  (.ops [.o 45 (.ld true 3 t10), .n (.sto 3 t8 t45)]))))
  (.ops [.o 32 (.mv t9), .o 33 (.bin .add t32 (ci 1)), .o 9 (.mv t33)]))))))
  (.seq (.ops [.o 12 (.mv (.c (.slice none 0 0)))])
  (.seq (.ops [.o 46 (.mv t12), .o 47 (.fa 0 0 t8), .o 48 (.ld false 1 t47), .o 49 (.fa 2 2 t8), .o 50 (.ld false 1 t49), .o 51 (.len t50), .o 52 (.fa 2 2 t4), .o 53 (.ld false 1 t52), .o 54 (.len t53), .o 55 (.bin .sub t51 t54), .o 56 (.bsl 1 2 zi [(0, 0, 1, t48), (1, 1, 1, t55)]), .o 57 (.app 1 8 2 t46 t56), .o 12 (.mv t57)])
  (.seq (.ops [.o 58 (.ld true 3 t8), .o 59 (.mv t12), .o 60 (.build (.st (zc (.cons zs .nil))) [(1, 1, 1, t59)]), .n (.sto 3 t6 t58), .n (.sto 2 t7 t60)])
  .ret))))))))
theorem hc_r15_days : compF Tryz.prog 61 Tryz.f30 = some (ic_r15_days, [.c 6 true 3, .c 7 true 2]) := by kernel_rfl

theorem fn_r15_onLoan : Tryz.prog.funcs[r15_onLoan]? = some Tryz.f31 := Tryz.func31
theorem nt_r15_onLoan : Tryz.f31.ntmps = 84 := Tryz.ntmps31
def ic_r15_onLoan : IC := (.seq (.ops [.o 3 (.box t0), .o 4 (.box t1), .o 5 (.box t2), .o 6 (.alloc (.st (zc (.cons zs (.cons zs .nil))))), .o 7 (.alloc (.st (zc (.cons zs .nil))))])
  (.seq (.ops [.o 10 (.ld true 3 t4), .o 11 (.fa 1 1 t5), .o 12 (.ld false 1 t11), .o 13 (.call 56 [t10, t12]), .o 8 (.mv t13)])
  (.seq (.seq (.ops [.o 14 (.mv t8), .o 15 (.bin .lss t14 (ci 0))])
  (.cond t15
  (.seq (.dops [.o 16 (.ld true 3 t4), .o 17 (.call 32 [(ci 150)]), .n (.sto 3 t6 t16), .n (.sto 2 t7 t17)])
  .ret)
  .skip))
  (.seq (.seq (.ops [.o 18 (.fa 0 0 t5), .o 19 (.ld false 1 t18), .o 20 (.bin .eql t19 (ci 2)), .o 21 (.mv t20), .og 22 21 true (.fa 4 4 t5), .og 23 21 true (.ld false 1 t22), .og 24 21 true (.bin .lss t23 (ci 0)), .o 25 (.pick t21 t24 (.c (.bool false)))])
  (.cond t25
  (.seq (.dops [.o 26 (.ld true 3 t4), .o 27 (.call 32 [(ci 2)]), .n (.sto 3 t6 t26), .n (.sto 2 t7 t27)])
  .ret)
  .skip))
  (.seq (.seq (.dops [.o 28 (.fa 0 0 t5), .o 29 (.ld false 1 t28), .o 30 (.bin .eql t29 (ci 2)), .o 31 (.mv t30), .og 32 31 true (.fa 4 4 t5), .og 33 31 true (.ld false 1 t32), .og 34 31 true (.bin .gtr t33 (ci 0)), .o 35 (.pick t31 t34 (.c (.bool false))), .o 36 (.mv t35), .og 37 36 true (.fa 4 4 t5), .og 38 36 true (.ld false 1 t37), .og 39 36 true (.fa 1 1 t4), .og 40 36 true (.ld false 1 t39), .og 41 36 true (.mv t8), .og 42 36 true (.ixs 46 t40 t41), .og 43 36 true (.fa 11 45 t42), .og 44 36 true (.ld false 1 t43), .og 45 36 true (.bin .leq t38 t44), .o 46 (.pick t36 t45 (.c (.bool false)))])
  (.cond t46
  (.seq (.dops [.o 47 (.ld true 3 t4), .o 48 (.call 32 [(ci 151)]), .n (.sto 3 t6 t47), .n (.sto 2 t7 t48)])
  .ret)
  .skip))
  (.seq (.dops [.o 49 (.ld true 18 t3), .o 50 (.fa 1 1 t4), .o 51 (.ld false 1 t50), .o 52 (.mv t8), .o 53 (.ixs 46 t51 t52), .o 54 (.ld true 46 t53), .o 55 (.ld true 7 t5), .o 56 (.call 61 [t49, t54, t55]), .o 9 (.alloc (.st (.cons (.st (zc (.cons (.st (zc (zc (zc (zc (zc (zc .nil))))))) (.cons zs (.cons (.st (.cons (.arr 12 1 fun _ => zi) .nil)) (.cons (.st (zc (zf (zc (zc (zc (zc (zc (zc (zc (zc (zc (zc (zc (zc (zc .nil)))))))))))))))) (zc (zc (zc (.cons (.st (zc (zc (zc (zc (zc .nil)))))) (zf (zc (zc .nil))))))))))))) (.cons (.st (zc (zc (zc (zc (zc .nil)))))) (.cons zs (zc .nil)))))), .n (.sto 53 t9 t56)])
  (.seq (.seq (.ops [.o 57 (.fa 3 52 t9), .o 58 (.ld false 1 t57), .o 59 (.bin .neq t58 (ci 0))])
  (.cond t59
  (.seq (.dopss [(.o 60 (.ld true 3 t4), []), (.o 61 (.fa 3 52 t9), []), (.o 62 (.ld false 1 t61), [6]), (.o 63 (.build (.st (zc (.cons zs .nil))) [(0, 0, 1, t62)]), []), (.n (.sto 3 t6 t60), []), (.n (.sto 2 t7 t63), [])])
  .ret)
  .skip))
  (.seq (.seq (.ops [.o 64 (.fa 0 0 t5), .o 65 (.ld false 1 t64), .o 66 (.bin .eql t65 (ci 2)), .o 67 (.mv t66), .og 68 67 true (.fa 4 4 t5), .og 69 67 true (.ld false 1 t68), .og 70 67 true (.bin .gtr t69 (ci 0)), .o 71 (.pick t67 t70 (.c (.bool false)))])
  (.cond t71
  (.ops [.o 72 (.fa 4 4 t5), .o 73 (.ld false 1 t72), .o 74 (.fa 0 0 t9), .o 75 (.fa 11 45 t74), .n (.sto 1 t75 t73)])
  .skip))
  (.seq (.dops [.o 76 (.ld true 3 t4), .o 77 (.mv t8), .o 78 (.ld true 53 t9), .o 79 (.call 62 [t76, t77, t78]), .o 80 (.ld true 7 t5), .o 81 (.ld true 53 t9), .o 82 (.call 63 [t80, t81]), .o 83 (.build (.st (zc (.cons zs .nil))) [(1, 1, 1, t82)]), .n (.sto 3 t6 t79), .n (.sto 2 t7 t83)])
  .ret)))))))))
theorem hc_r15_onLoan : compF Tryz.prog 84 Tryz.f31 = some (ic_r15_onLoan, [.c 6 true 3, .c 7 true 2]) := by kernel_rfl

theorem fn_r15_refusal : Tryz.prog.funcs[r15_refusal]? = some Tryz.f32 := Tryz.func32
theorem nt_r15_refusal : Tryz.f32.ntmps = 5 := Tryz.ntmps32
def ic_r15_refusal : IC := (.seq (.ops [.o 2 (.alloc (.st (zc (.cons zs .nil))))])
  (.seq (.ops [.o 3 (.mv t0), .o 4 (.build (.st (zc (.cons zs .nil))) [(0, 0, 1, t3)]), .n (.sto 2 t2 t4)])
  .ret))
theorem hc_r15_refusal : compF Tryz.prog 5 Tryz.f32 = some (ic_r15_refusal, [.c 2 true 2]) := by kernel_rfl

theorem fn_loan_Look_c1 : Tryz.prog.funcs[loan_Look_c1]? = some Tryz.f33 := Tryz.func33
theorem nt_loan_Look_c1 : Tryz.f33.ntmps = 4 := Tryz.ntmps33
def ic_loan_Look_c1 : IC := (.seq (.ops [.o 1 (.dead), .o 2 (.dead)])
  (.cond t2
  (.ops [.o 3 (.build (.st (zc (zc (zc (zc (zc (zc (zc (zc (zc (zc (zc (zc (zc (zc (zc (zc (zc (zc (zc (zc (zc .nil)))))))))))))))))))))) []), .n (.sto 21 t0 t3)])
  .skip))
theorem hc_loan_Look_c1 : compF Tryz.prog 4 Tryz.f33 = some (ic_loan_Look_c1, []) := by kernel_rfl

theorem fn_policy_Check : Tryz.prog.funcs[policy_Check]? = some Tryz.f34 := Tryz.func34
theorem nt_policy_Check : Tryz.f34.ntmps = 21 := Tryz.ntmps34
def ic_policy_Check : IC := (.seq (.ops [.o 1 (.box t0), .o 2 (.mv (ci 0)), .o 3 (.mv (ci 0))])
  (.seq (.seq (.ops [.o 6 (.call 64 []), .o 7 (.len t6), .o 8 (.mv (ci 0))])
  (.block 0 (.loop (.seq (.ops [.o 9 (.bin .lss t8 t7)])
  (.seq (.cond t9
  .skip
  (.exit 0))
  (.seq (.block 1 (.seq (.ops [.o 10 (.mv t8), .o 11 (.ixs 1 t6 t8), .o 12 (.ld true 1 t11), .o 5 (.alloc (.st (.cons (.val (.nilFunc)) .nil))), .o 4 (.mv t10), .n (.sto 1 t5 t12)])
  (.seq (.ops [.o 13 (.fa 0 0 t5), .o 14 (.ld false 1 t13), .o 15 (.ld true 18 t1), .o 16 (.calv t14 [t15]), .o 17 (.un .not t16)])
  (.cond t17
  (.seq (.ops [.o 18 (.mv t4), .o 19 (.bin .add t18 (ci 1)), .o 2 (.mv (ci 120)), .o 3 (.mv t19)])
  .ret)
  .skip))))
  (.ops [.o 20 (.bin .add t8 (ci 1)), .o 8 (.mv t20)])))))))
  (.seq (.ops [.o 2 (.mv (ci 0)), .o 3 (.mv (ci 0))])
  .ret)))
theorem hc_policy_Check : compF Tryz.prog 21 Tryz.f34 = some (ic_policy_Check, [.t 2, .t 3]) := by kernel_rfl

theorem fn_loan_give : Tryz.prog.funcs[loan_give]? = some Tryz.f35 := Tryz.func35
theorem nt_loan_give : Tryz.f35.ntmps = 7 := Tryz.ntmps35
def ic_loan_give : IC := (.seq (.ops [.o 2 (.mv t0), .o 3 (.bin .neq t2 (ci 0))])
  (.cond t3
  (.ops [.o 4 (.mv t0), .o 5 (.build (.st (zc .nil)) [(0, 0, 1, t4)]), .o 6 (.dead), .n (.dead)])
  .skip))
theorem hc_loan_give : compF Tryz.prog 7 Tryz.f35 = some (ic_loan_give, []) := by kernel_rfl

theorem fn_loan_owed : Tryz.prog.funcs[loan_owed]? = some Tryz.f36 := Tryz.func36
theorem nt_loan_owed : Tryz.f36.ntmps = 10 := Tryz.ntmps36
def ic_loan_owed : IC := (.seq (.ops [.o 1 (.box t0), .o 2 (.alloc (.st (zc (zc (zc .nil)))))])
  (.seq (.dops [.o 3 (.ld true 46 t1), .o 4 (.call 40 [t3, (ci 3)]), .o 5 (.ld true 46 t1), .o 6 (.call 40 [t5, (ci 2)]), .o 7 (.ld true 46 t1), .o 8 (.call 40 [t7, (ci 1)]), .o 9 (.build (.st (zc (zc (zc .nil)))) [(0, 0, 1, t4), (1, 1, 1, t6), (2, 2, 1, t8)]), .n (.sto 3 t2 t9)])
  .ret))
theorem hc_loan_owed : compF Tryz.prog 10 Tryz.f36 = some (ic_loan_owed, [.c 2 true 3]) := by kernel_rfl

theorem fn_loan_position : Tryz.prog.funcs[loan_position]? = some Tryz.f37 := Tryz.func37
theorem nt_loan_position : Tryz.f37.ntmps = 14 := Tryz.ntmps37
def ic_loan_position : IC := (.seq (.ops [.o 1 (.box t0), .o 2 (.alloc (.st (zc (zc .nil))))])
  (.seq (.ops [.o 4 (.ld true 46 t1), .o 5 (.call 36 [t4]), .o 3 (.alloc (.st (zc (zc (zc .nil))))), .n (.sto 3 t3 t5)])
  (.seq (.ops [.o 6 (.fa 7 37 t1), .o 7 (.ld false 1 t6), .o 8 (.fa 1 1 t3), .o 9 (.ld false 1 t8), .o 10 (.fa 2 2 t3), .o 11 (.ld false 1 t10), .o 12 (.bin .add t9 t11), .o 13 (.build (.st (zc (zc .nil))) [(0, 0, 1, t7), (1, 1, 1, t12)]), .n (.sto 2 t2 t13)])
  .ret)))
theorem hc_loan_position : compF Tryz.prog 14 Tryz.f37 = some (ic_loan_position, [.c 2 true 2]) := by kernel_rfl

theorem fn_aging_Days : Tryz.prog.funcs[aging_Days]? = some Tryz.f38 := Tryz.func38
theorem nt_aging_Days : Tryz.f38.ntmps = 23 := Tryz.ntmps38
def ic_aging_Days : IC := (.seq (.ops [.o 4 (.box t1), .o 6 (.mv (ci 0))])
  (.seq (.ops [.o 10 (.mv t0), .o 11 (.ld true 2 t4), .o 12 (.call 42 [t10, t11]), .o 9 (.mv t12), .o 13 (.ext 0 t9), .o 14 (.ext 1 t9), .o 7 (.mv t13), .o 8 (.mv t14)])
  (.seq (.seq (.ops [.o 15 (.mv t8), .o 16 (.un .not t15)])
  (.cond t16
  (.seq (.ops [.o 6 (.mv (ci 0))])
  .ret)
  .skip))
  (.seq (.ops [.o 17 (.mv t0), .o 18 (.mv t7), .o 19 (.ixs 4 t17 t18), .o 20 (.ld true 4 t19), .o 21 (.mv t2), .o 22 (.call 65 [t20, t21]), .o 6 (.mv t22)])
  .ret))))
theorem hc_aging_Days : compF Tryz.prog 23 Tryz.f38 = some (ic_aging_Days, [.t 6]) := by kernel_rfl

theorem fn_aging_PastDue : Tryz.prog.funcs[aging_PastDue]? = some Tryz.f39 := Tryz.func39
theorem nt_aging_PastDue : Tryz.f39.ntmps = 66 := Tryz.ntmps39
def ic_aging_PastDue : IC := (.seq (.ops [.o 4 (.box t1), .o 6 (.mv (ci 0))])
  (.seq (.ops [.o 13 (.mv t0), .o 14 (.ld true 2 t4), .o 15 (.call 42 [t13, t14]), .o 12 (.mv t15), .o 16 (.ext 0 t12), .o 17 (.ext 1 t12), .o 7 (.mv t16), .o 8 (.mv t17)])
  (.seq (.seq (.ops [.o 18 (.mv t8), .o 19 (.un .not t18), .o 20 (.mv t19), .og 21 20 false (.mv t0), .og 22 20 false (.mv t7), .og 23 20 false (.ixs 4 t21 t22), .og 24 20 false (.fa 0 0 t23), .og 25 20 false (.ld false 1 t24), .og 26 20 false (.mv t2), .og 27 20 false (.bin .geq t25 t26), .o 28 (.pick t20 (.c (.bool true)) t27)])
  (.cond t28
  (.seq (.ops [.o 6 (.mv (ci 0))])
  .ret)
  .skip))
  (.seq (.seq (.ops [.o 29 (.mv t0), .o 30 (.mv t0), .o 31 (.len t30), .o 32 (.bin .sub t31 (ci 1)), .o 33 (.ixs 4 t29 t32), .o 34 (.fa 0 0 t33), .o 35 (.ld false 1 t34), .o 36 (.mv t2), .o 37 (.bin .lss t35 t36)])
  (.cond t37
  (.seq (.ops [.o 38 (.fa 1 1 t4), .o 39 (.ld false 1 t38), .o 6 (.mv t39)])
  .ret)
  .skip))
  (.seq (.ops [.o 40 (.fa 0 0 t4), .o 41 (.ld false 1 t40), .o 42 (.mm true t41 (ci 0)), .o 43 (.un .neg t42), .o 9 (.mv t43)])
  (.seq (.seq (.ops [.o 44 (.mv t0), .o 45 (.len t44), .o 46 (.mv (ci 0))])
  (.block 0 (.loop (.seq (.ops [.o 47 (.bin .lss t46 t45)])
  (.seq (.cond t47
  .skip
  (.exit 0))
  (.seq (.block 1 (.seq (.ops [.o 48 (.ixs 4 t44 t46), .o 49 (.ld true 4 t48), .o 11 (.alloc (.st (zc (zc (zc (zf .nil)))))), .n (.sto 4 t11 t49)])
  (.seq (.seq (.ops [.o 50 (.fa 0 0 t11), .o 51 (.ld false 1 t50), .o 52 (.mv t2), .o 53 (.bin .geq t51 t52)])
  (.cond t53
  (.exit 0)
  .skip))
  (.ops [.o 54 (.mv t9), .o 55 (.fa 1 1 t11), .o 56 (.ld false 1 t55), .o 57 (.fa 2 2 t11), .o 58 (.ld false 1 t57), .o 59 (.bin .add t56 t58), .o 60 (.bin .add t54 t59), .o 9 (.mv t60)]))))
  (.ops [.o 61 (.bin .add t46 (ci 1)), .o 46 (.mv t61)])))))))
  (.seq (.ops [.o 62 (.mv t9), .o 63 (.fa 1 1 t4), .o 64 (.ld false 1 t63), .o 65 (.mm false t62 t64), .o 6 (.mv t65)])
  .ret)))))))
theorem hc_aging_PastDue : compF Tryz.prog 66 Tryz.f39 = some (ic_aging_PastDue, [.t 6]) := by kernel_rfl

theorem fn_loan_balance : Tryz.prog.funcs[loan_balance]? = some Tryz.f40 := Tryz.func40
theorem nt_loan_balance : Tryz.f40.ntmps = 17 := Tryz.ntmps40
def ic_loan_balance : IC := (.seq (.ops [.o 2 (.box t0), .o 4 (.mv (ci 0))])
  (.seq (.ops [.o 8 (.fa 3 8 t2), .o 9 (.ld true 12 t8), .o 10 (.mv t1), .o 11 (.call 66 [t9, t10]), .o 7 (.mv t11), .o 12 (.ext 0 t7), .o 13 (.ext 1 t7), .o 5 (.mv t12), .o 6 (.mv t13)])
  (.seq (.ops [.o 14 (.mv t6), .o 15 (.call 35 [t14])])
  (.seq (.ops [.o 16 (.mv t5), .o 4 (.mv t16)])
  .ret))))
theorem hc_loan_balance : compF Tryz.prog 17 Tryz.f40 = some (ic_loan_balance, [.t 4]) := by kernel_rfl

theorem fn_aging_Bucket : Tryz.prog.funcs[aging_Bucket]? = some Tryz.f41 := Tryz.func41
theorem nt_aging_Bucket : Tryz.f41.ntmps = 15 := Tryz.ntmps41
def ic_aging_Bucket : IC := (.seq (.ops [.o 2 (.mv (ci 0))])
  (.seq (.block 0 (.seq (.ops [.o 4 (.mv t0), .o 5 (.bin .geq t4 (ci 90)), .o 3 (.mv t5)])
  (.cond t3
  (.seq (.ops [.o 2 (.mv (ci 4))])
  .ret)
  (.seq (.ops [.o 7 (.mv t0), .o 8 (.bin .geq t7 (ci 60)), .o 6 (.mv t8)])
  (.cond t6
  (.seq (.ops [.o 2 (.mv (ci 3))])
  .ret)
  (.seq (.ops [.o 10 (.mv t0), .o 11 (.bin .geq t10 (ci 30)), .o 9 (.mv t11)])
  (.cond t9
  (.seq (.ops [.o 2 (.mv (ci 2))])
  .ret)
  (.seq (.ops [.o 13 (.mv t0), .o 14 (.bin .geq t13 (ci 1)), .o 12 (.mv t14)])
  (.cond t12
  (.seq (.ops [.o 2 (.mv (ci 1))])
  .ret)
  .skip)))))))))
  (.seq (.ops [.o 2 (.mv (ci 0))])
  .ret)))
theorem hc_aging_Bucket : compF Tryz.prog 15 Tryz.f41 = some (ic_aging_Bucket, [.t 2]) := by kernel_rfl

theorem fn_aging_Oldest : Tryz.prog.funcs[aging_Oldest]? = some Tryz.f42 := Tryz.func42
theorem nt_aging_Oldest : Tryz.f42.ntmps = 18 := Tryz.ntmps42
def ic_aging_Oldest : IC := (.seq (.ops [.o 3 (.box t1), .o 4 (.mv (ci 0)), .o 5 (.mv (.c (.bool false)))])
  (.seq (.seq (.ops [.o 7 (.mv t0), .o 8 (.call 67 [t7]), .o 9 (.un .not t8)])
  (.cond t9
  (.seq (.ops [.o 4 (.mv (ci 0)), .o 5 (.mv (.c (.bool false)))])
  .ret)
  .skip))
  (.seq (.ops [.o 10 (.mv t0), .o 11 (.ld true 2 t3), .o 12 (.call 68 [t10, t11]), .o 6 (.mv t12)])
  (.seq (.seq (.ops [.o 13 (.mv t6), .o 14 (.mv t0), .o 15 (.len t14), .o 16 (.bin .eql t13 t15)])
  (.cond t16
  (.seq (.ops [.o 4 (.mv (ci 0)), .o 5 (.mv (.c (.bool false)))])
  .ret)
  .skip))
  (.seq (.ops [.o 17 (.mv t6), .o 4 (.mv t17), .o 5 (.mv (.c (.bool true)))])
  .ret)))))
theorem hc_aging_Oldest : compF Tryz.prog 18 Tryz.f42 = some (ic_aging_Oldest, [.t 4, .t 5]) := by kernel_rfl

theorem fn_r14_days : Tryz.prog.funcs[r14_days]? = some Tryz.f43 := Tryz.func43
theorem nt_r14_days : Tryz.f43.ntmps = 10 := Tryz.ntmps43
def ic_r14_days : IC := (.seq (.ops [.o 1 (.box t0), .o 2 (.mv (ci 0))])
  (.seq (.dops [.o 3 (.fa 2 7 t1), .o 4 (.ld false 1 t3), .o 5 (.ld true 46 t1), .o 6 (.call 48 [t5]), .o 7 (.fa 5 35 t1), .o 8 (.ld false 1 t7), .o 9 (.call 69 [t4, t6, t8]), .o 2 (.mv t9)])
  .ret))
theorem hc_r14_days : compF Tryz.prog 10 Tryz.f43 = some (ic_r14_days, [.t 2]) := by kernel_rfl

theorem fn_r14_pastDue : Tryz.prog.funcs[r14_pastDue]? = some Tryz.f44 := Tryz.func44
theorem nt_r14_pastDue : Tryz.f44.ntmps = 10 := Tryz.ntmps44
def ic_r14_pastDue : IC := (.seq (.ops [.o 1 (.box t0), .o 2 (.mv (ci 0))])
  (.seq (.dops [.o 3 (.fa 2 7 t1), .o 4 (.ld false 1 t3), .o 5 (.ld true 46 t1), .o 6 (.call 48 [t5]), .o 7 (.fa 5 35 t1), .o 8 (.ld false 1 t7), .o 9 (.call 70 [t4, t6, t8]), .o 2 (.mv t9)])
  .ret))
theorem hc_r14_pastDue : compF Tryz.prog 10 Tryz.f44 = some (ic_r14_pastDue, [.t 2]) := by kernel_rfl

theorem fn_r10_Bucket : Tryz.prog.funcs[r10_Bucket]? = some Tryz.f45 := Tryz.func45
theorem nt_r10_Bucket : Tryz.f45.ntmps = 17 := Tryz.ntmps45
def ic_r10_Bucket : IC := (.seq (.ops [.o 2 (.mv (ci 0))])
  (.seq (.ops [.o 3 (.mv (ci 0))])
  (.seq (.seq (.ops [.o 6 (.build (.arr 4 1 fun _ => zi) [(0, 0, 1, (ci 1)), (1, 1, 1, (ci 30)), (2, 2, 1, (ci 60)), (3, 3, 1, (ci 90))]), .o 7 (.mv (ci 0))])
  (.block 0 (.loop (.seq (.ops [.o 8 (.bin .lss t7 (ci 4))])
  (.seq (.cond t8
  .skip
  (.exit 0))
  (.seq (.block 1 (.seq (.ops [.o 9 (.ix false 4 1 t6 t7), .o 5 (.mv t9)])
  (.seq (.ops [.o 10 (.mv t0), .o 11 (.mv t5), .o 12 (.bin .geq t10 t11)])
  (.cond t12
  (.ops [.o 13 (.mv t3), .o 14 (.bin .add t13 (ci 1)), .o 3 (.mv t14)])
  .skip))))
  (.ops [.o 15 (.bin .add t7 (ci 1)), .o 7 (.mv t15)])))))))
  (.seq (.ops [.o 16 (.mv t3), .o 2 (.mv t16)])
  .ret))))
theorem hc_r10_Bucket : compF Tryz.prog 17 Tryz.f45 = some (ic_r10_Bucket, [.t 2]) := by kernel_rfl

theorem fn_r14_of : Tryz.prog.funcs[r14_of]? = some Tryz.f46 := Tryz.func46
theorem nt_r14_of : Tryz.f46.ntmps = 15 := Tryz.ntmps46
def ic_r14_of : IC := (.seq (.ops [.o 2 (.box t0), .o 4 (.mv (ci 0))])
  (.seq (.ops [.o 8 (.fa 3 8 t2), .o 9 (.ld true 12 t8), .o 10 (.mv t1), .o 11 (.call 71 [t9, t10]), .o 7 (.mv t11), .o 12 (.ext 0 t7), .o 13 (.ext 1 t7), .o 5 (.mv t12), .o 6 (.mv t13)])
  (.seq (.ops [.o 14 (.mv t5), .o 4 (.mv t14)])
  .ret)))
theorem hc_r14_of : compF Tryz.prog 15 Tryz.f46 = some (ic_r14_of, [.t 4]) := by kernel_rfl

theorem fn_r10_Oldest : Tryz.prog.funcs[r10_Oldest]? = some Tryz.f47 := Tryz.func47
theorem nt_r10_Oldest : Tryz.f47.ntmps = 18 := Tryz.ntmps47
def ic_r10_Oldest : IC := (.seq (.ops [.o 3 (.box t1), .o 4 (.mv (ci 0)), .o 5 (.mv (.c (.bool false)))])
  (.seq (.ops [.o 8 (.mv t0), .o 9 (.call 72 [t8]), .o 6 (.mv t9)])
  (.seq (.ops [.o 10 (.mv t6), .o 11 (.ld true 2 t3), .o 12 (.call 73 [t10, t11]), .o 7 (.mv t12)])
  (.seq (.seq (.ops [.o 13 (.mv t7), .o 14 (.mv t6), .o 15 (.len t14), .o 16 (.bin .geq t13 t15)])
  (.cond t16
  (.seq (.ops [.o 4 (.mv (ci 0)), .o 5 (.mv (.c (.bool false)))])
  .ret)
  .skip))
  (.seq (.ops [.o 17 (.mv t7), .o 4 (.mv t17), .o 5 (.mv (.c (.bool true)))])
  .ret)))))
theorem hc_r10_Oldest : compF Tryz.prog 18 Tryz.f47 = some (ic_r10_Oldest, [.t 4, .t 5]) := by kernel_rfl

theorem fn_r14_Position : Tryz.prog.funcs[r14_Position]? = some Tryz.f48 := Tryz.func48
theorem nt_r14_Position : Tryz.f48.ntmps = 11 := Tryz.ntmps48
def ic_r14_Position : IC := (.seq (.ops [.o 1 (.box t0), .o 2 (.alloc (.st (zc (zc .nil))))])
  (.seq (.dops [.o 3 (.fa 7 37 t1), .o 4 (.ld false 1 t3), .o 5 (.ld true 46 t1), .o 6 (.call 46 [t5, (ci 2)]), .o 7 (.ld true 46 t1), .o 8 (.call 46 [t7, (ci 1)]), .o 9 (.bin .add t6 t8), .o 10 (.build (.st (zc (zc .nil))) [(0, 0, 1, t4), (1, 1, 1, t9)]), .n (.sto 2 t2 t10)])
  .ret))
theorem hc_r14_Position : compF Tryz.prog 11 Tryz.f48 = some (ic_r14_Position, [.c 2 true 2]) := by kernel_rfl

theorem fn_r1_high : Tryz.prog.funcs[r1_high]? = some Tryz.f50 := Tryz.func50
theorem nt_r1_high : Tryz.f50.ntmps = 5 := Tryz.ntmps50
def ic_r1_high : IC := (.seq (.ops [.o 2 (.mv (ci 0))])
  (.seq (.ops [.o 3 (.mv t0), .o 4 (.bin .shr t3 (.c (.int .u64 32))), .o 2 (.mv t4)])
  .ret))
theorem hc_r1_high : compF Tryz.prog 5 Tryz.f50 = some (ic_r1_high, [.t 2]) := by kernel_rfl

theorem fn_r1_lowOf : Tryz.prog.funcs[r1_lowOf]? = some Tryz.f51 := Tryz.func51
theorem nt_r1_lowOf : Tryz.f51.ntmps = 8 := Tryz.ntmps51
def ic_r1_lowOf : IC := (.seq (.ops [.o 2 (.mv (ci 0))])
  (.seq (.ops [.o 3 (.mv t0), .o 4 (.mv t0), .o 5 (.call 50 [t4]), .o 6 (.bin .mul t5 (ci 4294967296)), .o 7 (.bin .sub t3 t6), .o 2 (.mv t7)])
  .ret))
theorem hc_r1_lowOf : compF Tryz.prog 8 Tryz.f51 = some (ic_r1_lowOf, [.t 2]) := by kernel_rfl

theorem fn_r1_joined : Tryz.prog.funcs[r1_joined]? = some Tryz.f52 := Tryz.func52
theorem nt_r1_joined : Tryz.f52.ntmps = 26 := Tryz.ntmps52
def ic_r1_joined : IC := (.seq (.ops [.o 4 (.mv (ci 0)), .o 5 (.mv (.c (.bool false)))])
  (.seq (.ops [.o 7 (.mv t1), .o 8 (.bin .shr t7 (.c (.int .u64 32))), .o 6 (.mv t8)])
  (.seq (.ops [.o 9 (.mv t0), .o 10 (.mv t6), .o 11 (.bin .add t9 t10), .o 0 (.mv t11)])
  (.seq (.ops [.o 12 (.mv t1), .o 13 (.mv t6), .o 14 (.bin .mul t13 (ci 4294967296)), .o 15 (.bin .sub t12 t14), .o 1 (.mv t15)])
  (.seq (.seq (.ops [.o 16 (.mv t0), .o 17 (.bin .lss t16 (ci (-2147483648))), .o 18 (.mv t17), .og 19 18 false (.mv t0), .og 20 18 false (.bin .gtr t19 (ci 2147483647)), .o 21 (.pick t18 (.c (.bool true)) t20)])
  (.cond t21
  (.seq (.ops [.o 4 (.mv (ci 0)), .o 5 (.mv (.c (.bool false)))])
  .ret)
  .skip))
  (.seq (.ops [.o 22 (.mv t0), .o 23 (.bin .mul t22 (ci 4294967296)), .o 24 (.mv t1), .o 25 (.bin .add t23 t24), .o 4 (.mv t25), .o 5 (.mv (.c (.bool true)))])
  .ret))))))
theorem hc_r1_joined : compF Tryz.prog 26 Tryz.f52 = some (ic_r1_joined, [.t 4, .t 5]) := by kernel_rfl

theorem fn_r1_MulDiv : Tryz.prog.funcs[r1_MulDiv]? = some Tryz.f53 := Tryz.func53
theorem nt_r1_MulDiv : Tryz.f53.ntmps = 61 := Tryz.ntmps53
def ic_r1_MulDiv : IC := (.seq (.ops [.o 6 (.mv (ci 0)), .o 7 (.mv (.c (.bool false)))])
  (.seq (.seq (.ops [.o 13 (.mv t2), .o 14 (.bin .eql t13 (ci 0))])
  (.cond t14
  (.seq (.ops [.o 6 (.mv (ci 0)), .o 7 (.mv (.c (.bool false)))])
  .ret)
  .skip))
  (.seq (.ops [.o 15 (.mv t2), .o 16 (.call 78 [t15]), .o 8 (.mv t16)])
  (.seq (.ops [.o 18 (.mv t0), .o 19 (.call 78 [t18]), .o 20 (.call 81 [t19]), .o 21 (.mv t1), .o 22 (.call 78 [t21]), .o 23 (.call 81 [t22]), .o 24 (.call 80 [t20, t23]), .o 25 (.mv t8), .o 26 (.call 79 [t24, t25]), .o 17 (.mv t26), .o 27 (.ext 0 t17), .o 28 (.ext 1 t17), .o 9 (.mv t27), .o 10 (.mv t28)])
  (.seq (.ops [.o 29 (.mv t8), .o 30 (.mv t10), .o 31 (.bin .sub t29 t30), .o 11 (.mv t31)])
  (.seq (.seq (.ops [.o 32 (.mv t10), .o 33 (.mv t11), .o 34 (.bin .gtr t32 t33), .o 35 (.mv t34), .og 36 35 false (.mv t10), .og 37 35 false (.mv t11), .og 38 35 false (.bin .eql t36 t37), .og 39 35 false (.mv t38), .og 40 39 true (.mv t9), .og 41 39 true (.ixs 1 t40 (ci 0)), .og 42 39 true (.ld false 1 t41), .og 43 39 true (.bin .eql t42 (ci 1)), .og 44 35 false (.pick t39 t43 (.c (.bool false))), .o 45 (.pick t35 (.c (.bool true)) t44)])
  (.cond t45
  (.ops [.o 46 (.mv t9), .o 47 (.call 82 [t46]), .o 9 (.mv t47)])
  .skip))
  (.seq (.ops [.o 48 (.mv t0), .o 49 (.bin .lss t48 (ci 0)), .o 50 (.mv t1), .o 51 (.bin .lss t50 (ci 0)), .o 52 (.eqv true t49 t51), .o 12 (.mv t52)])
  (.seq (.ops [.o 53 (.mv t12), .o 54 (.mv t2), .o 55 (.bin .lss t54 (ci 0)), .o 56 (.eqv true t53 t55), .o 57 (.mv t9), .o 58 (.call 83 [t56, t57]), .o 59 (.ext 0 t58), .o 60 (.ext 1 t58), .o 6 (.mv t59), .o 7 (.mv t60)])
  .ret))))))))
theorem hc_r1_MulDiv : compF Tryz.prog 61 Tryz.f53 = some (ic_r1_MulDiv, [.t 6, .t 7]) := by kernel_rfl

theorem fn_r12_in : Tryz.prog.funcs[r12_in]? = some Tryz.f54 := Tryz.func54
theorem nt_r12_in : Tryz.f54.ntmps = 15 := Tryz.ntmps54
def ic_r12_in : IC := (.seq (.ops [.o 6 (.mv (.c (.bool false)))])
  (.seq (.ops [.o 7 (.mv t0), .o 8 (.mv t1), .o 9 (.bin .geq t7 t8), .o 10 (.mv t9), .og 11 10 true (.mv t0), .og 12 10 true (.mv t2), .og 13 10 true (.bin .leq t11 t12), .o 14 (.pick t10 t13 (.c (.bool false))), .o 6 (.mv t14)])
  .ret))
theorem hc_r12_in : compF Tryz.prog 15 Tryz.f54 = some (ic_r12_in, [.t 6]) := by kernel_rfl

theorem fn_r12_holidays : Tryz.prog.funcs[r12_holidays]? = some Tryz.f55 := Tryz.func55
theorem nt_r12_holidays : Tryz.f55.ntmps = 41 := Tryz.ntmps55
def ic_r12_holidays : IC := (.seq (.ops [.o 2 (.mv (.c (.bool false)))])
  (.seq (.seq (.ops [.o 4 (.mv t0), .o 5 (.len t4), .o 6 (.bin .gtr t5 (ci 64))])
  (.cond t6
  (.seq (.ops [.o 2 (.mv (.c (.bool false)))])
  .ret)
  .skip))
  (.seq (.seq (.ops [.o 3 (.mv (ci 0))])
  (.block 0 (.loop (.seq (.seq (.ops [.o 7 (.mv t3), .o 8 (.mv t0), .o 9 (.len t8), .o 10 (.bin .lss t7 t9)])
  (.cond t10
  .skip
  (.exit 0)))
  (.seq (.block 1 (.seq (.dops [.o 13 (.mv t0), .o 14 (.mv t3), .o 15 (.ixs 1 t13 t14), .o 16 (.ld false 1 t15), .o 17 (.bin .lss t16 (ci 1)), .o 18 (.mv t17), .og 19 18 false (.mv t0), .og 20 18 false (.mv t3), .og 21 18 false (.ixs 1 t19 t20), .og 22 18 false (.ld false 1 t21), .og 23 18 false (.bin .gtr t22 (ci 3652059)), .o 24 (.pick t18 (.c (.bool true)) t23), .o 25 (.mv t24), .og 26 25 false (.mv t3), .og 27 25 false (.bin .gtr t26 (ci 0)), .og 28 25 false (.mv t27), .og 29 28 true (.mv t0), .og 30 28 true (.mv t3), .og 31 28 true (.ixs 1 t29 t30), .og 32 28 true (.ld false 1 t31), .og 33 28 true (.mv t0), .og 34 28 true (.mv t3), .og 35 28 true (.bin .sub t34 (ci 1)), .og 36 28 true (.ixs 1 t33 t35), .og 37 28 true (.ld false 1 t36), .og 38 28 true (.bin .leq t32 t37), .og 39 25 false (.pick t28 t38 (.c (.bool false))), .o 40 (.pick t25 (.c (.bool true)) t39)])
  (.cond t40
  (.seq (.ops [.o 2 (.mv (.c (.bool false)))])
  .ret)
  .skip)))
  (.ops [.o 11 (.mv t3), .o 12 (.bin .add t11 (ci 1)), .o 3 (.mv t12)]))))))
  (.seq (.ops [.o 2 (.mv (.c (.bool true)))])
  .ret))))
theorem hc_r12_holidays : compF Tryz.prog 41 Tryz.f55 = some (ic_r12_holidays, [.t 2]) := by kernel_rfl

theorem fn_r15_place : Tryz.prog.funcs[r15_place]? = some Tryz.f56 := Tryz.func56
theorem nt_r15_place : Tryz.f56.ntmps = 22 := Tryz.ntmps56
def ic_r15_place : IC := (.seq (.ops [.o 2 (.box t0), .o 4 (.mv (ci 0))])
  (.seq (.seq (.ops [.o 5 (.mv (ci 0))])
  (.block 0 (.loop (.seq (.seq (.ops [.o 6 (.mv t5), .o 7 (.fa 1 1 t2), .o 8 (.ld false 1 t7), .o 9 (.len t8), .o 10 (.bin .lss t6 t9)])
  (.cond t10
  .skip
  (.exit 0)))
  (.seq (.block 1 (.seq (.ops [.o 13 (.fa 1 1 t2), .o 14 (.ld false 1 t13), .o 15 (.mv t5), .o 16 (.ixs 46 t14 t15), .o 17 (.fa 0 0 t16), .o 18 (.ld false 1 t17), .o 19 (.mv t1), .o 20 (.bin .eql t18 t19)])
  (.cond t20
  (.seq (.ops [.o 21 (.mv t5), .o 4 (.mv t21)])
  .ret)
  .skip)))
  (.ops [.o 11 (.mv t5), .o 12 (.bin .add t11 (ci 1)), .o 5 (.mv t12)]))))))
  (.seq (.ops [.o 4 (.mv (ci (-1)))])
  .ret)))
theorem hc_r15_place : compF Tryz.prog 22 Tryz.f56 = some (ic_r15_place, [.t 4]) := by kernel_rfl

theorem fn_r14_Open : Tryz.prog.funcs[r14_Open]? = some Tryz.f57 := Tryz.func57
theorem nt_r14_Open : Tryz.f57.ntmps = 52 := Tryz.ntmps57
def ic_r14_Open : IC := (.seq (.ops [.o 3 (.box t0), .o 5 (.box t2), .o 6 (.alloc (.st (.cons (.st (zc (.cons (.st (zc (zc (zc (zc (zc (zc .nil))))))) (.cons zs (.cons (.st (.cons (.arr 12 1 fun _ => zi) .nil)) (.cons (.st (zc (zf (zc (zc (zc (zc (zc (zc (zc (zc (zc (zc (zc (zc (zc .nil)))))))))))))))) (zc (zc (zc (.cons (.st (zc (zc (zc (zc (zc .nil)))))) (zf (zc (zc .nil))))))))))))) (.cons (.st (zc (zc (zc (zc (zc .nil)))))) (.cons zs (zc .nil))))))])
  (.seq (.ops [.o 10 (.ld true 18 t3), .o 11 (.build (.st (zc (.cons (.st (zc (zc (zc (zc (zc (zc .nil))))))) (.cons zs (.cons (.st (.cons (.arr 12 1 fun _ => zi) .nil)) (.cons (.st (zc (zf (zc (zc (zc (zc (zc (zc (zc (zc (zc (zc (zc (zc (zc .nil)))))))))))))))) (zc (zc (zc (.cons (.st (zc (zc (zc (zc (zc .nil)))))) (zf (zc (zc .nil))))))))))))) []), .o 12 (.call 84 [t10, t11]), .o 7 (.alloc (.st (.cons (.st (zc (zc (zc (zc (zc (zc (zc (zc (zc (zc (zc (zc (zc (zc (zc (zc (zc (.cons zs .nil))))))))))))))))))) (.cons (.st (zc (.cons (.st (zc (zc (zc (zc (zc (zc .nil))))))) (.cons zs (.cons (.st (.cons (.arr 12 1 fun _ => zi) .nil)) (.cons (.st (zc (zf (zc (zc (zc (zc (zc (zc (zc (zc (zc (zc (zc (zc (zc .nil)))))))))))))))) (zc (zc (zc (.cons (.st (zc (zc (zc (zc (zc .nil)))))) (zf (zc (zc .nil))))))))))))) (.cons (.st (zc (zc (zc (zc (zc .nil)))))) (.cons zs (zc .nil))))))), .n (.sto 71 t7 t12)])
  (.seq (.ops [.o 13 (.ld true 71 t7), .o 14 (.mv t1), .o 15 (.bin .lss t14 (ci 1)), .o 16 (.mv t15), .og 17 16 false (.mv t1), .og 18 16 false (.bin .gtr t17 (ci 999999)), .o 19 (.pick t16 (.c (.bool true)) t18), .o 20 (.call 85 [t13, t19, (ci 2)]), .n (.sto 71 t7 t20)])
  (.seq (.dops [.o 21 (.ld true 71 t7), .o 22 (.ld true 6 t5), .o 23 (.call 86 [t22]), .o 24 (.call 85 [t21, t23, (ci 140)]), .n (.sto 71 t7 t24)])
  (.seq (.ops [.o 26 (.ld true 6 t5), .o 27 (.fa 17 17 t3), .o 28 (.ld false 1 t27), .o 29 (.call 87 [t26, t28]), .o 25 (.mv t29), .o 30 (.ext 0 t25), .o 31 (.ext 1 t25), .o 8 (.mv t30), .o 9 (.mv t31)])
  (.seq (.ops [.o 32 (.ld true 71 t7), .o 33 (.mv t9), .o 34 (.un .not t33), .o 35 (.call 85 [t32, t34, (ci 141)]), .n (.sto 71 t7 t35)])
  (.seq (.dops [.o 36 (.mv t1), .o 37 (.ld true 6 t5), .o 38 (.mv t8), .o 39 (.call 88 []), .o 40 (.fa 4 4 t5), .o 41 (.ld false 1 t40), .o 42 (.build (.st (zc (.cons (.st (zc (zc (zc (zc (zc (zc .nil))))))) (.cons zs (.cons (.st (.cons (.arr 12 1 fun _ => zi) .nil)) (.cons (.st (zc (zf (zc (zc (zc (zc (zc (zc (zc (zc (zc (zc (zc (zc (zc .nil)))))))))))))))) (zc (zc (zc (.cons (.st (zc (zc (zc (zc (zc .nil)))))) (zf (zc (zc .nil))))))))))))) [(0, 0, 1, t36), (1, 1, 6, t37), (2, 7, 1, t38), (4, 20, 15, t39), (5, 35, 1, t41)]), .o 43 (.fa 1 18 t7), .n (.sto 46 t43 t42)])
  (.seq (.dops [.o 44 (.ld true 71 t7), .o 45 (.fa 1 1 t5), .o 46 (.ld false 1 t45), .o 47 (.call 90 [(.c (.slice none 0 0)), (ci 1), (ci 6), t46]), .o 48 (.call 89 [t44, t47]), .n (.sto 71 t7 t48)])
  (.seq (.ops [.o 49 (.ld true 71 t7), .o 50 (.build (.st (zc (.cons (.st (zc (zc (zc (zc (zc (zc .nil))))))) (.cons zs (.cons (.st (.cons (.arr 12 1 fun _ => zi) .nil)) (.cons (.st (zc (zf (zc (zc (zc (zc (zc (zc (zc (zc (zc (zc (zc (zc (zc .nil)))))))))))))))) (zc (zc (zc (.cons (.st (zc (zc (zc (zc (zc .nil)))))) (zf (zc (zc .nil))))))))))))) []), .o 51 (.call 91 [t49, t50]), .n (.sto 53 t6 t51)])
  .ret)))))))))
theorem hc_r14_Open : compF Tryz.prog 52 Tryz.f57 = some (ic_r14_Open, [.c 6 true 53]) := by kernel_rfl

theorem fn_r15_noticed : Tryz.prog.funcs[r15_noticed]? = some Tryz.f58 := Tryz.func58
theorem nt_r15_noticed : Tryz.f58.ntmps = 45 := Tryz.ntmps58
def ic_r15_noticed : IC := (.seq (.ops [.o 2 (.box t0), .o 4 (.alloc (.st (zc (.cons zs (.cons zs .nil)))))])
  (.seq (.ops [.o 5 (.mv (.c (.slice none 0 0)))])
  (.seq (.seq (.ops [.o 6 (.mv (ci 0))])
  (.block 0 (.loop (.seq (.seq (.ops [.o 9 (.mv t6), .o 10 (.fa 2 2 t2), .o 11 (.ld false 1 t10), .o 12 (.len t11), .o 13 (.bin .lss t9 t12)])
  (.cond t13
  .skip
  (.exit 0)))
  (.seq (.block 1 (.ops [.o 16 (.mv t5), .o 17 (.fa 2 2 t2), .o 18 (.ld false 1 t17), .o 19 (.mv t6), .o 20 (.ixs 6 t18 t19), .o 21 (.ld true 6 t20), .o 22 (.bsl 6 74 (.st (zc (zc (zc (zc (zc (zf .nil))))))) [(0, 0, 6, t21)]), .o 23 (.app 6 48 74 t16 t22), .o 5 (.mv t23)]))
  (.ops [.o 14 (.mv t6), .o 15 (.bin .add t14 (ci 1)), .o 6 (.mv t15)]))))))
  (.seq (.seq (.ops [.o 7 (.mv (ci 0))])
  (.block 2 (.loop (.seq (.seq (.ops [.o 24 (.mv t7), .o 25 (.mv t1), .o 26 (.len t25), .o 27 (.bin .lss t24 t26)])
  (.cond t27
  .skip
  (.exit 2)))
  (.seq (.block 3 (.seq (.ops [.o 30 (.mv t1), .o 31 (.mv t7), .o 32 (.ixs 6 t30 t31), .o 33 (.ld true 6 t32), .o 8 (.alloc (.st (zc (zc (zc (zc (zc (zf .nil)))))))), .n (.sto 6 t8 t33)])
  (.seq (.ops [.o 34 (.mv t5), .o 35 (.len t34), .o 36 (.bin .add t35 (ci 1)), .o 37 (.fa 0 0 t8), .n (.sto 1 t37 t36)])
  (.ops [.o 38 (.mv t5), .o 39 (.ld true 6 t8), .o 40 (.bsl 6 74 (.st (zc (zc (zc (zc (zc (zf .nil))))))) [(0, 0, 6, t39)]), .o 41 (.app 6 48 74 t38 t40), .o 5 (.mv t41)]))))
  (.ops [.o 28 (.mv t7), .o 29 (.bin .add t28 (ci 1)), .o 7 (.mv t29)]))))))
  (.seq (.ops [.o 42 (.mv t5), .o 43 (.fa 2 2 t2), .n (.sto 1 t43 t42)])
  (.seq (.ops [.o 44 (.ld true 3 t2), .n (.sto 3 t4 t44)])
  .ret))))))
theorem hc_r15_noticed : compF Tryz.prog 45 Tryz.f58 = some (ic_r15_noticed, [.c 4 true 3]) := by kernel_rfl

theorem fn_r15_first : Tryz.prog.funcs[r15_first]? = some Tryz.f59 := Tryz.func59
theorem nt_r15_first : Tryz.f59.ntmps = 37 := Tryz.ntmps59
def ic_r15_first : IC := (.seq (.ops [.o 1 (.box t0), .o 2 (.mv (.c (.slice none 0 0)))])
  (.seq (.ops [.o 3 (.mv (.c (.slice none 0 0)))])
  (.seq (.ops [.o 4 (.mv t3), .o 5 (.fa 2 7 t1), .o 6 (.ld false 1 t5), .o 7 (.len t6), .o 8 (.bsl 1 2 zi [(0, 0, 1, t7)]), .o 9 (.app 1 8 2 t4 t8), .o 3 (.mv t9)])
  (.seq (.seq (.ops [.o 10 (.fa 2 7 t1), .o 11 (.ld false 1 t10), .o 12 (.len t11), .o 13 (.bin .gtr t12 (ci 0))])
  (.cond t13
  (.seq (.ops [.o 14 (.mv t3), .o 15 (.fa 2 7 t1), .o 16 (.ld false 1 t15), .o 17 (.ixs 4 t16 (ci 0)), .o 18 (.fa 0 0 t17), .o 19 (.ld false 1 t18), .o 20 (.bsl 1 2 zi [(0, 0, 1, t19)]), .o 21 (.app 1 8 2 t14 t20), .o 3 (.mv t21)])
  (.dops [.o 22 (.mv t3), .o 23 (.fa 2 7 t1), .o 24 (.ld false 1 t23), .o 25 (.ixs 4 t24 (ci 0)), .o 26 (.fa 1 1 t25), .o 27 (.ld false 1 t26), .o 28 (.fa 2 7 t1), .o 29 (.ld false 1 t28), .o 30 (.ixs 4 t29 (ci 0)), .o 31 (.fa 2 2 t30), .o 32 (.ld false 1 t31), .o 33 (.bin .add t27 t32), .o 34 (.bsl 1 2 zi [(0, 0, 1, t33)]), .o 35 (.app 1 8 2 t22 t34), .o 3 (.mv t35)]))
  .skip))
  (.seq (.ops [.o 36 (.mv t3), .o 2 (.mv t36)])
  .ret)))))
theorem hc_r15_first : compF Tryz.prog 37 Tryz.f59 = some (ic_r15_first, [.t 2]) := by kernel_rfl

theorem fn_r15_rolled : Tryz.prog.funcs[r15_rolled]? = some Tryz.f60 := Tryz.func60
theorem nt_r15_rolled : Tryz.f60.ntmps = 37 := Tryz.ntmps60
def ic_r15_rolled : IC := (.seq (.ops [.o 2 (.box t0), .o 3 (.box t1), .o 4 (.alloc (.st (zc (.cons zs (.cons zs .nil))))), .o 5 (.mv (ci 0))])
  (.seq (.seq (.ops [.o 6 (.mv (ci 0))])
  (.block 0 (.loop (.seq (.seq (.ops [.o 8 (.mv t6), .o 9 (.fa 1 1 t3), .o 10 (.ld false 1 t9), .o 11 (.len t10), .o 12 (.bin .lss t8 t11)])
  (.cond t12
  .skip
  (.exit 0)))
  (.seq (.block 1 (.seq (.dops [.o 15 (.ld true 18 t2), .o 16 (.fa 1 1 t3), .o 17 (.ld false 1 t16), .o 18 (.mv t6), .o 19 (.ixs 46 t17 t18), .o 20 (.ld true 46 t19), .o 21 (.call 92 [t15, t20]), .o 7 (.alloc (.st (.cons (.st (zc (.cons (.st (zc (zc (zc (zc (zc (zc .nil))))))) (.cons zs (.cons (.st (.cons (.arr 12 1 fun _ => zi) .nil)) (.cons (.st (zc (zf (zc (zc (zc (zc (zc (zc (zc (zc (zc (zc (zc (zc (zc .nil)))))))))))))))) (zc (zc (zc (.cons (.st (zc (zc (zc (zc (zc .nil)))))) (zf (zc (zc .nil))))))))))))) (.cons (.st (zc (zc (zc (zc (zc .nil)))))) (.cons zs (zc .nil)))))), .n (.sto 53 t7 t21)])
  (.seq (.seq (.ops [.o 22 (.fa 3 52 t7), .o 23 (.ld false 1 t22), .o 24 (.bin .neq t23 (ci 0))])
  (.cond t24
  (.seq (.dopss [(.o 25 (.ld true 3 t3), []), (.o 26 (.fa 3 52 t7), []), (.o 27 (.ld false 1 t26), [4]), (.n (.sto 3 t4 t25), []), (.o 5 (.mv t27), [])])
  .ret)
  .skip))
  (.ops [.o 28 (.ld true 3 t3), .o 29 (.mv t6), .o 30 (.ld true 53 t7), .o 31 (.call 62 [t28, t29, t30]), .n (.sto 3 t3 t31)]))))
  (.ops [.o 13 (.mv t6), .o 14 (.bin .add t13 (ci 1)), .o 6 (.mv t14)]))))))
  (.seq (.ops [.o 32 (.fa 0 0 t3), .o 33 (.ld false 1 t32), .o 34 (.bin .add t33 (ci 1)), .o 35 (.fa 0 0 t3), .n (.sto 1 t35 t34)])
  (.seq (.ops [.o 36 (.ld true 3 t3), .n (.sto 3 t4 t36), .o 5 (.mv (ci 0))])
  .ret))))
theorem hc_r15_rolled : compF Tryz.prog 37 Tryz.f60 = some (ic_r15_rolled, [.c 4 true 3, .t 5]) := by kernel_rfl

theorem fn_r15_called : Tryz.prog.funcs[r15_called]? = some Tryz.f61 := Tryz.func61
theorem nt_r15_called : Tryz.f61.ntmps = 51 := Tryz.ntmps61
def ic_r15_called : IC := (.seq (.ops [.o 3 (.box t0), .o 4 (.box t1), .o 5 (.box t2), .o 6 (.alloc (.st (.cons (.st (zc (.cons (.st (zc (zc (zc (zc (zc (zc .nil))))))) (.cons zs (.cons (.st (.cons (.arr 12 1 fun _ => zi) .nil)) (.cons (.st (zc (zf (zc (zc (zc (zc (zc (zc (zc (zc (zc (zc (zc (zc (zc .nil)))))))))))))))) (zc (zc (zc (.cons (.st (zc (zc (zc (zc (zc .nil)))))) (zf (zc (zc .nil))))))))))))) (.cons (.st (zc (zc (zc (zc (zc .nil)))))) (.cons zs (zc .nil))))))])
  (.seq (.seq (.ops [.o 7 (.fa 0 0 t5), .o 8 (.ld false 1 t7)])
  (.block 0 (.seq (.ops [.o 10 (.bin .eql t8 (ci 2)), .o 9 (.mv t10)])
  (.cond t9
  (.seq (.ops [.o 11 (.ld true 18 t3), .o 12 (.ld true 46 t4), .o 13 (.fa 2 2 t5), .o 14 (.ld false 1 t13), .o 15 (.call 93 [t11, t12, t14]), .n (.sto 53 t6 t15)])
  .ret)
  (.seq (.ops [.o 17 (.bin .eql t8 (ci 3)), .o 16 (.mv t17)])
  (.cond t16
  (.seq (.ops [.o 18 (.ld true 18 t3), .o 19 (.ld true 46 t4), .o 20 (.call 94 [t18, t19]), .n (.sto 53 t6 t20)])
  .ret)
  (.seq (.ops [.o 22 (.bin .eql t8 (ci 4)), .o 21 (.mv t22)])
  (.cond t21
  (.seq (.ops [.o 23 (.ld true 18 t3), .o 24 (.ld true 46 t4), .o 25 (.fa 2 2 t5), .o 26 (.ld false 1 t25), .o 27 (.call 95 [t23, t24, t26]), .n (.sto 53 t6 t27)])
  .ret)
  (.seq (.ops [.o 29 (.bin .eql t8 (ci 5)), .o 28 (.mv t29)])
  (.cond t28
  (.seq (.ops [.o 30 (.ld true 18 t3), .o 31 (.ld true 46 t4), .o 32 (.fa 2 2 t5), .o 33 (.ld false 1 t32), .o 34 (.call 96 [t30, t31, t33]), .n (.sto 53 t6 t34)])
  .ret)
  (.seq (.ops [.o 36 (.bin .eql t8 (ci 6)), .o 35 (.mv t36)])
  (.cond t35
  (.seq (.ops [.o 37 (.ld true 18 t3), .o 38 (.ld true 46 t4), .o 39 (.fa 2 2 t5), .o 40 (.ld false 1 t39), .o 41 (.fa 5 5 t5), .o 42 (.ld false 1 t41), .o 43 (.call 97 [t37, t38, t40, t42]), .n (.sto 53 t6 t43)])
  .ret)
  .skip))))))))))))
  (.seq (.ops [.o 44 (.ld true 18 t3), .o 45 (.ld true 46 t4), .o 46 (.fa 4 4 t5), .o 47 (.ld false 1 t46), .o 48 (.fa 3 3 t5), .o 49 (.ld false 1 t48), .o 50 (.call 98 [t44, t45, t47, t49]), .n (.sto 53 t6 t50)])
  .ret)))
theorem hc_r15_called : compF Tryz.prog 51 Tryz.f61 = some (ic_r15_called, [.c 6 true 53]) := by kernel_rfl

theorem fn_r15_changed : Tryz.prog.funcs[r15_changed]? = some Tryz.f62 := Tryz.func62
theorem nt_r15_changed : Tryz.f62.ntmps = 38 := Tryz.ntmps62
def ic_r15_changed : IC := (.seq (.ops [.o 3 (.box t0), .o 5 (.box t2), .o 6 (.alloc (.st (zc (.cons zs (.cons zs .nil)))))])
  (.seq (.ops [.o 7 (.mv (.c (.slice none 0 0)))])
  (.seq (.seq (.ops [.o 8 (.mv (ci 0))])
  (.block 0 (.loop (.seq (.seq (.ops [.o 9 (.mv t8), .o 10 (.fa 1 1 t3), .o 11 (.ld false 1 t10), .o 12 (.len t11), .o 13 (.bin .lss t9 t12)])
  (.cond t13
  .skip
  (.exit 0)))
  (.seq (.block 1 (.seq (.ops [.o 16 (.mv t8), .o 17 (.mv t1), .o 18 (.bin .eql t16 t17)])
  (.cond t18
  (.ops [.o 19 (.mv t7), .o 20 (.fa 0 0 t5), .o 21 (.ld true 46 t20), .o 22 (.bsl 46 45 (.st (zc (.cons (.st (zc (zc (zc (zc (zc (zc .nil))))))) (.cons zs (.cons (.st (.cons (.arr 12 1 fun _ => zi) .nil)) (.cons (.st (zc (zf (zc (zc (zc (zc (zc (zc (zc (zc (zc (zc (zc (zc (zc .nil)))))))))))))))) (zc (zc (zc (.cons (.st (zc (zc (zc (zc (zc .nil)))))) (zf (zc (zc .nil))))))))))))) [(0, 0, 46, t21)]), .o 23 (.app 46 384 45 t19 t22), .o 7 (.mv t23)])
  (.ops [.o 24 (.mv t7), .o 25 (.fa 1 1 t3), .o 26 (.ld false 1 t25), .o 27 (.mv t8), .o 28 (.ixs 46 t26 t27), .o 29 (.ld true 46 t28), .o 30 (.bsl 46 45 (.st (zc (.cons (.st (zc (zc (zc (zc (zc (zc .nil))))))) (.cons zs (.cons (.st (.cons (.arr 12 1 fun _ => zi) .nil)) (.cons (.st (zc (zf (zc (zc (zc (zc (zc (zc (zc (zc (zc (zc (zc (zc (zc .nil)))))))))))))))) (zc (zc (zc (.cons (.st (zc (zc (zc (zc (zc .nil)))))) (zf (zc (zc .nil))))))))))))) [(0, 0, 46, t29)]), .o 31 (.app 46 384 45 t24 t30), .o 7 (.mv t31)]))))
  (.ops [.o 14 (.mv t8), .o 15 (.bin .add t14 (ci 1)), .o 8 (.mv t15)]))))))
  (.seq (.ops [.o 32 (.mv t7), .o 33 (.fa 1 1 t3), .n (.sto 1 t33 t32)])
  (.seq (.ops [.o 34 (.ld true 3 t3), .o 35 (.fa 2 51 t5), .o 36 (.ld false 1 t35), .o 37 (.call 58 [t34, t36]), .n (.sto 3 t6 t37)])
  .ret)))))
theorem hc_r15_changed : compF Tryz.prog 38 Tryz.f62 = some (ic_r15_changed, [.c 6 true 3]) := by kernel_rfl

theorem fn_r15_numbers : Tryz.prog.funcs[r15_numbers]? = some Tryz.f63 := Tryz.func63
theorem nt_r15_numbers : Tryz.f63.ntmps = 105 := Tryz.ntmps63
def ic_r15_numbers : IC := (.seq (.ops [.o 2 (.box t0), .o 3 (.box t1), .o 4 (.mv (.c (.slice none 0 0)))])
  (.seq (.ops [.o 13 (.fa 0 0 t3), .o 14 (.ld true 46 t13), .o 5 (.alloc (.st (zc (.cons (.st (zc (zc (zc (zc (zc (zc .nil))))))) (.cons zs (.cons (.st (.cons (.arr 12 1 fun _ => zi) .nil)) (.cons (.st (zc (zf (zc (zc (zc (zc (zc (zc (zc (zc (zc (zc (zc (zc (zc .nil)))))))))))))))) (zc (zc (zc (.cons (.st (zc (zc (zc (zc (zc .nil)))))) (zf (zc (zc .nil)))))))))))))), .n (.sto 46 t5 t14)])
  (.seq (.ops [.o 15 (.fa 1 46 t3), .o 16 (.ld true 5 t15), .o 6 (.alloc (.st (zc (zc (zc (zc (zc .nil))))))), .n (.sto 5 t6 t16)])
  (.seq (.ops [.o 17 (.fa 4 20 t5), .o 18 (.fa 0 0 t17), .o 19 (.ld false 1 t18), .o 7 (.mv t19)])
  (.seq (.ops [.o 8 (.mv (.c (.slice none 0 0)))])
  (.seq (.seq (.ops [.o 20 (.fa 0 0 t2), .o 21 (.ld false 1 t20)])
  (.block 0 (.seq (.ops [.o 33 (.bin .eql t21 (ci 2)), .o 32 (.mv t33)])
  (.cond t32
  (.ops [.o 34 (.mv t8), .o 35 (.fa 0 0 t6), .o 36 (.ld false 1 t35), .o 37 (.fa 1 1 t6), .o 38 (.ld false 1 t37), .o 39 (.fa 2 2 t6), .o 40 (.ld false 1 t39), .o 41 (.fa 3 3 t6), .o 42 (.ld false 1 t41), .o 43 (.fa 4 4 t6), .o 44 (.ld false 1 t43), .o 45 (.mv t7), .o 46 (.bsl 1 2 zi [(0, 0, 1, t36), (1, 1, 1, t38), (2, 2, 1, t40), (3, 3, 1, t42), (4, 4, 1, t44), (5, 5, 1, t45)]), .o 47 (.app 1 8 2 t34 t46), .o 8 (.mv t47)])
  (.seq (.ops [.o 49 (.bin .eql t21 (ci 3)), .o 48 (.mv t49)])
  (.cond t48
  (.ops [.o 50 (.mv t8), .o 51 (.fa 0 0 t6), .o 52 (.ld false 1 t51), .o 53 (.fa 1 1 t6), .o 54 (.ld false 1 t53), .o 55 (.bin .add t52 t54), .o 56 (.fa 2 2 t6), .o 57 (.ld false 1 t56), .o 58 (.bin .add t55 t57), .o 59 (.fa 3 3 t6), .o 60 (.ld false 1 t59), .o 61 (.bin .add t58 t60), .o 62 (.fa 4 4 t6), .o 63 (.ld false 1 t62), .o 64 (.bin .add t61 t63), .o 65 (.mv t7), .o 66 (.bsl 1 2 zi [(0, 0, 1, t64), (1, 1, 1, t65)]), .o 67 (.app 1 8 2 t50 t66), .o 8 (.mv t67)])
  (.seq (.ops [.o 69 (.bin .eql t21 (ci 4)), .o 68 (.mv t69)])
  (.cond t68
  (.seq (.ops [.o 71 (.fa 3 8 t5), .o 72 (.ld true 12 t71), .o 73 (.call 71 [t72, (ci 4)]), .o 70 (.mv t73), .o 74 (.ext 0 t70), .o 75 (.ext 1 t70), .o 9 (.mv t74), .o 10 (.mv t75)])
  (.ops [.o 76 (.mv t8), .o 77 (.mv t9), .o 78 (.bsl 1 2 zi [(0, 0, 1, t77)]), .o 79 (.app 1 8 2 t76 t78), .o 8 (.mv t79)]))
  (.seq (.ops [.o 81 (.bin .eql t21 (ci 5)), .o 80 (.mv t81)])
  (.cond t80
  (.seq (.ops [.o 83 (.fa 3 8 t5), .o 84 (.ld true 12 t83), .o 85 (.call 71 [t84, (ci 3)]), .o 82 (.mv t85), .o 86 (.ext 0 t82), .o 87 (.ext 1 t82), .o 11 (.mv t86), .o 12 (.mv t87)])
  (.ops [.o 88 (.mv t8), .o 89 (.mv t11), .o 90 (.mv t7), .o 91 (.bsl 1 2 zi [(0, 0, 1, t89), (1, 1, 1, t90)]), .o 92 (.app 1 8 2 t88 t91), .o 8 (.mv t92)]))
  (.seq (.ops [.o 94 (.bin .eql t21 (ci 6)), .o 93 (.mv t94)])
  (.cond t93
  (.ops [.o 95 (.mv t8), .o 96 (.fa 4 20 t5), .o 97 (.fa 6 6 t96), .o 98 (.ld false 1 t97), .o 99 (.fa 4 20 t5), .o 100 (.fa 4 4 t99), .o 101 (.ld false 1 t100), .o 102 (.bsl 1 2 zi [(0, 0, 1, t98), (1, 1, 1, t101)]), .o 103 (.app 1 8 2 t95 t102), .o 8 (.mv t103)])
  (.seq (.ops [.o 22 (.mv t8), .o 23 (.fa 1 1 t5), .o 24 (.fa 1 1 t23), .o 25 (.ld false 1 t24), .o 26 (.bsl 1 2 zi [(0, 0, 1, t25)]), .o 27 (.app 1 8 2 t22 t26), .o 8 (.mv t27)])
  (.ops [.o 28 (.mv t8), .o 29 (.ld true 46 t5), .o 30 (.call 59 [t29]), .o 31 (.app 1 8 2 t28 t30), .o 8 (.mv t31)]))))))))))))))
  (.seq (.ops [.o 104 (.mv t8), .o 4 (.mv t104)])
  .ret)))))))
theorem hc_r15_numbers : compF Tryz.prog 105 Tryz.f63 = some (ic_r15_numbers, [.t 4]) := by kernel_rfl

end Go.Proofs.YtjkmmcbfcglkdaaGreatDoor
