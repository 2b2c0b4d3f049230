/- The given functions as the walk reads them: each constant is what the program's text comes to. No condition. -/
import Derived.Test.YtaomkjcclcgdlaaGreatDoorK7
import Derived.Test.YtaomkjcclcgdlaaGreatDoorK6
import Derived.Test.YtaomkjcclcgdlaaGreatDoorProg
import Derived.KernelRfl
set_option linter.all false
namespace Go.Proofs.YtaomkjcclcgdlaaGreatDoor
open Go Ar
set_option linter.unusedVariables false
set_option maxRecDepth 100000

def sideL : List Int := [1, 1, 1, 1, -1, -1, -1, -1, -1, 1, -1, 1]
abbrev gl0 : Nat → AV := fun k => match k with
  | 0 => .elt 1 12 (fun _ => .arr 12 1 (fun i => I (at_ sideL i))) 0 []
  | _ => .any
theorem gl0n : ∀ i, nf (gl0 i) := fun i => by
  match i with
  | 0 => exact fun _ _ => trivial
  | _ + 1 => trivial
theorem side_ok (i : Nat) : okI .i64 (at_ sideL i) := by
  by_cases h : i < 12
  · have : i = 0 ∨ i = 1 ∨ i = 2 ∨ i = 3 ∨ i = 4 ∨ i = 5 ∨ i = 6 ∨ i = 7 ∨ i = 8 ∨ i = 9 ∨ i = 10 ∨ i = 11 := by omega
    rcases this with rfl | rfl | rfl | rfl | rfl | rfl | rfl | rfl | rfl | rfl | rfl | rfl <;> decide
  · have : at_ sideL i = 0 := by
      unfold at_ sideL
      rw [List.getD_eq_getElem?_getD, List.getElem?_eq_none (by simp; omega)]
      rfl
    rw [this]; decide
theorem gl0w : GlW gl0 := glw_row 12 _ (fun i => .int .i64 (at_ sideL i)) rfl (fun _ => rfl) (fun _ => rfl) side_ok
theorem mixed : Tryz.prog.follows .mixedOrders = true := rfl

abbrev zi : AV := .val (.int .i64 0)
abbrev zs : AV := .val (.slice none 0 0)
abbrev zc (a : AV) : AV := .cons zi a
abbrev zf (a : AV) : AV := .cons (.val (.bool false)) a
abbrev ci (n : Int) : X := .c (.int .i64 n)
abbrev cf : X := .c (.bool false)
abbrev ct : X := .c (.bool true)
abbrev em (d : Nat) (x : X) : Ent := .o d (.mv x)
abbrev eb (d : Nat) (b : BinOp) (x y : X) : Ent := .o d (.bin b x y)
abbrev el (d : Nat) (g : Bool) (n : Nat) (x : X) : Ent := .o d (.ld g n x)
abbrev ef (d k o : Nat) (x : X) : Ent := .o d (.fa k o x)
abbrev ex (d k : Nat) (x : X) : Ent := .o d (.ext k x)
abbrev es (d e : Nat) (x i : X) : Ent := .o d (.ixs e x i)
abbrev ec (d f : Nat) (l : List X) : Ent := .o d (.call f l)
abbrev io (l : List Ent) : IC := .ops l
abbrev t0 : X := .t 0
abbrev t1 : X := .t 1
abbrev t2 : X := .t 2
abbrev t3 : X := .t 3
abbrev t4 : X := .t 4
abbrev t5 : X := .t 5
abbrev t6 : X := .t 6
abbrev t7 : X := .t 7
abbrev t8 : X := .t 8
abbrev t9 : X := .t 9
abbrev t10 : X := .t 10
abbrev t11 : X := .t 11
abbrev t12 : X := .t 12
abbrev t13 : X := .t 13
abbrev t14 : X := .t 14
abbrev t15 : X := .t 15
abbrev t16 : X := .t 16
abbrev t17 : X := .t 17
abbrev t18 : X := .t 18
abbrev t19 : X := .t 19
abbrev t20 : X := .t 20
abbrev t21 : X := .t 21
abbrev t22 : X := .t 22
abbrev t23 : X := .t 23
abbrev t24 : X := .t 24
abbrev t25 : X := .t 25
abbrev t26 : X := .t 26
abbrev t27 : X := .t 27
abbrev t28 : X := .t 28
abbrev t29 : X := .t 29
abbrev t30 : X := .t 30
abbrev t31 : X := .t 31
abbrev t32 : X := .t 32
abbrev t33 : X := .t 33
abbrev t34 : X := .t 34
abbrev t35 : X := .t 35
abbrev t36 : X := .t 36
abbrev t37 : X := .t 37
abbrev t38 : X := .t 38
abbrev t39 : X := .t 39
abbrev t40 : X := .t 40
abbrev t41 : X := .t 41
abbrev t42 : X := .t 42
abbrev t43 : X := .t 43
abbrev t44 : X := .t 44
abbrev t45 : X := .t 45
abbrev t46 : X := .t 46
abbrev t47 : X := .t 47
abbrev t48 : X := .t 48
abbrev t49 : X := .t 49
abbrev t50 : X := .t 50
abbrev t51 : X := .t 51
abbrev t52 : X := .t 52
abbrev t53 : X := .t 53
abbrev t54 : X := .t 54
abbrev t55 : X := .t 55
abbrev t56 : X := .t 56
abbrev t57 : X := .t 57
abbrev t58 : X := .t 58
abbrev t59 : X := .t 59
abbrev t60 : X := .t 60
abbrev t61 : X := .t 61
abbrev t62 : X := .t 62
abbrev t63 : X := .t 63
abbrev t64 : X := .t 64
abbrev t65 : X := .t 65
abbrev t66 : X := .t 66
abbrev t67 : X := .t 67
abbrev t68 : X := .t 68
abbrev t69 : X := .t 69
abbrev t70 : X := .t 70
abbrev t71 : X := .t 71
abbrev t72 : X := .t 72
abbrev t73 : X := .t 73
abbrev t74 : X := .t 74
abbrev t75 : X := .t 75
abbrev t76 : X := .t 76
abbrev t77 : X := .t 77
abbrev t78 : X := .t 78
abbrev t79 : X := .t 79
abbrev t80 : X := .t 80
abbrev t81 : X := .t 81
abbrev t82 : X := .t 82
abbrev t83 : X := .t 83
abbrev t84 : X := .t 84
abbrev t85 : X := .t 85
abbrev t86 : X := .t 86
abbrev t87 : X := .t 87
abbrev t88 : X := .t 88
abbrev t89 : X := .t 89
abbrev t90 : X := .t 90
abbrev t91 : X := .t 91
abbrev t92 : X := .t 92
abbrev t93 : X := .t 93
abbrev t94 : X := .t 94
abbrev t95 : X := .t 95
abbrev t96 : X := .t 96
abbrev t97 : X := .t 97
abbrev t98 : X := .t 98
abbrev t99 : X := .t 99
abbrev t100 : X := .t 100
abbrev t101 : X := .t 101
abbrev t102 : X := .t 102
abbrev t103 : X := .t 103
abbrev t104 : X := .t 104
abbrev t105 : X := .t 105
abbrev t106 : X := .t 106
abbrev t107 : X := .t 107
abbrev t108 : X := .t 108
abbrev t109 : X := .t 109
abbrev t110 : X := .t 110
abbrev t111 : X := .t 111
abbrev t112 : X := .t 112
abbrev t113 : X := .t 113
abbrev t114 : X := .t 114
abbrev t115 : X := .t 115
abbrev t116 : X := .t 116
abbrev t117 : X := .t 117
abbrev t118 : X := .t 118
abbrev t119 : X := .t 119
abbrev t120 : X := .t 120
abbrev t121 : X := .t 121
abbrev t122 : X := .t 122
abbrev t123 : X := .t 123
abbrev t124 : X := .t 124
abbrev t125 : X := .t 125
abbrev t126 : X := .t 126
abbrev t127 : X := .t 127
abbrev t128 : X := .t 128
abbrev t129 : X := .t 129
abbrev t130 : X := .t 130
abbrev t131 : X := .t 131
abbrev t132 : X := .t 132
abbrev t133 : X := .t 133
abbrev t134 : X := .t 134
abbrev t135 : X := .t 135
abbrev t136 : X := .t 136
abbrev t137 : X := .t 137
abbrev t138 : X := .t 138
abbrev t139 : X := .t 139
abbrev t140 : X := .t 140
abbrev t141 : X := .t 141
abbrev t142 : X := .t 142
abbrev t143 : X := .t 143
abbrev t144 : X := .t 144
abbrev t145 : X := .t 145
abbrev t146 : X := .t 146
abbrev t147 : X := .t 147
abbrev t148 : X := .t 148
abbrev t149 : X := .t 149
abbrev t150 : X := .t 150
abbrev t151 : X := .t 151
abbrev t152 : X := .t 152
abbrev t153 : X := .t 153
abbrev t154 : X := .t 154
abbrev t155 : X := .t 155
abbrev t156 : X := .t 156
abbrev t157 : X := .t 157
abbrev t158 : X := .t 158
abbrev t159 : X := .t 159
abbrev t160 : X := .t 160
abbrev t161 : X := .t 161
abbrev t162 : X := .t 162
abbrev t163 : X := .t 163
abbrev t164 : X := .t 164
abbrev t165 : X := .t 165
abbrev t166 : X := .t 166

abbrev l24_BureauCodes : Nat := 3
abbrev l24_playable : Nat := 4
abbrev r12_Check : Nat := 5
abbrev bureau_Code : Nat := 6
abbrev r15_Begin : Nat := 7
abbrev r15_Apply : Nat := 8
abbrev l24_code : Nat := 9
abbrev r24_Code : Nat := 10
abbrev r12_may : Nat := 11
abbrev policy_Check : Nat := 12
abbrev loan_Look : Nat := 13
abbrev strconv_Itoa : Nat := 14
abbrev r15_opened : Nat := 15
abbrev r15_days : Nat := 16
abbrev r15_onLoan : Nat := 17
abbrev r15_refusal : Nat := 18
abbrev l24_ownPolicy : Nat := 19
abbrev r14_Look : Nat := 20
abbrev r12_in : Nat := 21
abbrev r12_holidays : Nat := 22
abbrev policy_rules : Nat := 23
abbrev loan_Look_c1 : Nat := 24
abbrev loan_give : Nat := 25
abbrev loan_owed : Nat := 26
abbrev loan_position : Nat := 27
abbrev aging_Days : Nat := 28
abbrev aging_PastDue : Nat := 29
abbrev loan_balance : Nat := 30
abbrev aging_Bucket : Nat := 31
abbrev aging_Oldest : Nat := 32
abbrev internal_strconv_Itoa : Nat := 33
abbrev r15_place : Nat := 34
abbrev r14_Open : Nat := 35
abbrev r15_noticed : Nat := 36
abbrev r15_first : Nat := 37
abbrev r15_rolled : Nat := 38
abbrev r15_called : Nat := 39
abbrev r15_changed : Nat := 40
abbrev r15_numbers : Nat := 41
abbrev r14_days : Nat := 42
abbrev r14_pastDue : Nat := 43
abbrev r10_Bucket : Nat := 44
abbrev r14_of : Nat := 45
abbrev r10_Oldest : Nat := 46
abbrev r14_Position : Nat := 47
abbrev arrears_policy_between_int_ : Nat := 48
abbrev policy_rules_c1 : Nat := 49
abbrev arrears_policy_from_int_ : Nat := 50
abbrev policy_rules_c2 : Nat := 51
abbrev policy_rules_c3 : Nat := 52
abbrev policy_rules_c4 : Nat := 53
abbrev policy_rules_c5 : Nat := 54
abbrev arrears_policy_between_int64_ : Nat := 55
abbrev policy_rules_c6 : Nat := 56
abbrev arrears_policy_from_int64_ : Nat := 57
abbrev policy_rules_c7 : Nat := 58
abbrev policy_rules_c8 : Nat := 59
abbrev policy_rules_c9 : Nat := 60
abbrev policy_rules_c10 : Nat := 61
abbrev policy_rules_c11 : Nat := 62
abbrev policy_rules_c12 : Nat := 63
abbrev policy_rules_c13 : Nat := 64
abbrev policy_rules_c14 : Nat := 65
abbrev policy_rules_c15 : Nat := 66
abbrev policy_rules_c16 : Nat := 67
abbrev policy_rules_c17 : Nat := 68
abbrev policy_rules_c18 : Nat := 69
abbrev policy_rules_c19 : Nat := 70
abbrev policy_rules_c20 : Nat := 71
abbrev policy_days : Nat := 72
abbrev aging_lateness : Nat := 73
abbrev ledger_Balance : Nat := 74
abbrev aging_sound : Nat := 75
abbrev aging_front : Nat := 76
abbrev internal_strconv_FormatInt : Nat := 77
abbrev r14_begin : Nat := 78
abbrev r14_fail : Nat := 79
abbrev r14_wrong : Nat := 80
abbrev r3_Plan : Nat := 81
abbrev r13_Fresh : Nat := 82
abbrev r14_posted : Nat := 83
abbrev r14_move : Nat := 84
abbrev r14_done : Nat := 85
abbrev r14_Roll : Nat := 86
abbrev r14_Pay : Nat := 87
abbrev r14_Return : Nat := 88
abbrev r14_Refund : Nat := 89
abbrev r14_Waive : Nat := 90
abbrev r14_Promise : Nat := 91
abbrev r14_Restructure : Nat := 92
abbrev r8_Balance : Nat := 93
abbrev r10_Days : Nat := 94
abbrev r10_PastDue : Nat := 95
abbrev r10_rows : Nat := 96
abbrev r10_satisfied : Nat := 97
abbrev arrears_policy_between_int_1 : Nat := 98
abbrev arrears_policy_from_int_1 : Nat := 99
abbrev arrears_policy_between_int64_1 : Nat := 100
abbrev arrears_policy_from_int64_1 : Nat := 101
abbrev arrears_money_Sum_int64_ : Nat := 102
abbrev internal_strconv_small : Nat := 103
abbrev internal_strconv_numDigits : Nat := 104
abbrev internal_strconv_formatBase10 : Nat := 105
abbrev internal_strconv_formatBits : Nat := 106
abbrev r14_copied : Nat := 107
abbrev r3_Valid : Nat := 108
abbrev r3_Level : Nat := 109
abbrev r3_month : Nat := 110
abbrev r3_part : Nat := 111
abbrev r3_Due : Nat := 112
abbrev r8_Post : Nat := 113
abbrev r14_accrued : Nat := 114
abbrev r14_over : Nat := 115
abbrev r14_played : Nat := 116
abbrev r14_charged : Nat := 117
abbrev r14_parted : Nat := 118
abbrev r9_Entries : Nat := 119
abbrev r14_settled : Nat := 120
abbrev r9_Undo : Nat := 121
abbrev r14_forgotten : Nat := 122
abbrev r14_noted : Nat := 123
abbrev r14_owed : Nat := 124
abbrev r14_sum : Nat := 125
abbrev r8_is : Nat := 126
abbrev r8_Debits : Nat := 127
abbrev r10_late : Nat := 128
abbrev r10_before : Nat := 129
abbrev r10_paid : Nat := 130
abbrev r10_Sound : Nat := 131
abbrev internal_strconv_log10Pow2 : Nat := 133
abbrev math_bits_Len64 : Nat := 134
abbrev internal_strconv_bool2_int_ : Nat := 135
abbrev internal_strconv_isPowerOfTwo : Nat := 136
abbrev math_bits_TrailingZeros : Nat := 137
abbrev r3_isRate : Nat := 138
abbrev r3_PaysOff : Nat := 139
abbrev r2_Civil : Nat := 140
abbrev r2_AddMonths : Nat := 141
abbrev r2_Adjust : Nat := 142
abbrev r8_refused : Nat := 143
abbrev r1_Sum : Nat := 144
abbrev r8_moves : Nat := 145
abbrev r8_OwnSide : Nat := 146
abbrev r3_Span : Nat := 147
abbrev r13_Step : Nat := 148
abbrev r14_acted : Nat := 149
abbrev r13_Open : Nat := 150
abbrev r10_Missed : Nat := 151
abbrev r12_Assess : Nat := 152
abbrev r10_Mark : Nat := 153
abbrev r9_Recover : Nat := 154
abbrev r9_Allocate : Nat := 155
abbrev r9_moves : Nat := 156
abbrev r10_amounts : Nat := 157
abbrev math_bits_TrailingZeros32 : Nat := 158
abbrev math_bits_TrailingZeros64 : Nat := 159
abbrev r2_isDay : Nat := 160
abbrev r2_yearLen : Nat := 161
abbrev r2_lenOf : Nat := 162
abbrev r2_Number : Nat := 163
abbrev r2_sought : Nat := 164
abbrev r1_high : Nat := 165
abbrev r1_lowOf : Nat := 166
abbrev r1_joined : Nat := 167
abbrev r13_numbers : Nat := 168
abbrev r13_standing : Nat := 169
abbrev r13_taken : Nat := 170
abbrev r14_given : Nat := 171
abbrev r12_good : Nat := 172
abbrev r12_LateFee : Nat := 173
abbrev r12_room : Nat := 174
abbrev r9_Turn : Nat := 175
abbrev r9_part : Nat := 176
abbrev r9_with : Nat := 177
abbrev r2_divides : Nat := 178
abbrev r2_MonthLen : Nat := 179
abbrev r2_Business : Nat := 180
abbrev r13_fits : Nat := 181
abbrev r13_age : Nat := 182
abbrev r13_paid : Nat := 183
abbrev r13_returned : Nat := 184
abbrev r13_ended : Nat := 185
abbrev r13_cure : Nat := 186
abbrev r1_Bps : Nat := 187
abbrev r9_wants : Nat := 188
abbrev r2_Weekday : Nat := 189
abbrev r13_back : Nat := 190
abbrev r13_quiet : Nat := 191
abbrev r13_cleared : Nat := 192
abbrev r1_MulDiv : Nat := 193
abbrev r1_size : Nat := 194
abbrev r1_over : Nat := 195
abbrev r1_times : Nat := 196
abbrev r1_digits : Nat := 197
abbrev r1_more : Nat := 198
abbrev r1_signed : Nat := 199
theorem fn_l24_BureauCodes : Tryz.prog.funcs[l24_BureauCodes]? = some Tryz.f3 := Tryz.func3
theorem nt_l24_BureauCodes : Tryz.f3.ntmps = 115 := Tryz.ntmps3
def ic_l24_BureauCodes : IC := (.seq (io [.o 3 (.box t0), .o 5 (.box t2), em 6 cf])
  (.seq (.seq (io [el 20 true 18 t3, em 21 t1, ec 22 4 [t20, t21], .o 23 (.un .not t22), em 24 t23, .og 25 24 false (.fa 17 17 t5), .og 26 24 false (.ld false 1 t25), .og 27 24 false (.len t26), .og 28 24 false (.bin .gtr t27 (ci 1000)), .o 29 (.pick t24 ct t28)])
  (.cond t29
  (.seq (io [em 6 ct])
  .ret)
  .skip))
  (.seq (io [el 31 true 18 t3, ec 32 5 [t31], em 30 t32, ex 33 0 t30, ex 34 1 t30, em 7 t33, em 8 t34])
  (.seq (io [el 36 true 18 t5, ec 37 5 [t36], em 35 t37, ex 38 0 t35, ex 39 1 t35, em 9 t38, em 10 t39])
  (.seq (.seq (io [em 40 t7, eb 41 .neq t40 (ci 0)])
  (.cond t41
  (.seq (io [el 42 true 18 t3, .o 43 (.build (.st (zc (.cons (.st (zc (zc (zc (zc (zc (zc .nil))))))) (.cons zs (.cons (.st (.cons (.arr 12 1 fun _ => zi) .nil)) (.cons (.st (zc (zf (zc (zc (zc (zc (zc (zc (zc (zc (zc (zc (zc (zc (zc .nil)))))))))))))))) (zc (zc (zc (.cons (.st (zc (zc (zc (zc (zc .nil)))))) (zf (zc (zc .nil))))))))))))) []), ec 44 6 [t42, t43], .o 45 (.sop .eql t44 (.c (.string ⟨#[]⟩))), em 6 t45])
  .ret)
  .skip))
  (.seq (io [el 46 true 18 t3, ec 47 7 [t46], .o 11 (.alloc (.st (zc (.cons zs (.cons zs .nil))))), .n (.sto 3 t11 t47)])
  (.seq (.seq (io [em 12 (ci 0)])
  (.block 0 (.loop (.seq (.seq (io [em 48 t12, em 49 t1, .o 50 (.len t49), eb 51 .lss t48 t50])
  (.cond t51
  .skip
  (.exit 0)))
  (.seq (.block 1 (.seq (.dopr 2 [(el 55 true 18 t3, []), (el 56 true 3 t11, []), (em 57 t1, []), (em 58 t12, []), (es 59 7 t57 t58, []), (el 60 true 7 t59, []), (ec 61 8 [t55, t56, t60], []), (em 54 t61, []), (ex 62 0 t54, []), (ex 63 1 t54, []), (.o 13 (.alcN 2 (.st (zc (.cons zs (.cons zs .nil))))), []), (.o 14 (.alcN 1 (.st (zc (.cons zs .nil)))), []), (.n (.stoN 2 3 t13 t62), []), (.n (.stoN 1 2 t14 t63), [])])
  (.ops [el 64 true 3 t13, .n (.sto 3 t11 t64)])))
  (.ops [em 52 t12, eb 53 .add t52 (ci 1), em 12 t53]))))))
  (.seq (.seq (io [em 15 (ci 0)])
  (.block 2 (.loop (.seq (.seq (io [em 65 t15, ef 66 1 1 t11, el 67 false 1 t66, .o 68 (.len t67), eb 69 .lss t65 t68])
  (.cond t69
  .skip
  (.exit 2)))
  (.seq (.block 3 (.seq (.dops [el 73 true 18 t3, ef 74 1 1 t11, el 75 false 1 t74, em 76 t15, es 77 46 t75 t76, el 78 true 46 t77, ec 79 9 [t73, t78], em 72 t79, ex 80 0 t72, ex 81 1 t72, em 16 t80, em 17 t81])
  (.seq (.seq (.dops [em 82 t17, .o 83 (.un .not t82), em 84 t83, .og 85 84 false (.mv t16), .og 86 84 false (.ld true 18 t3), .og 87 84 false (.fa 1 1 t11), .og 88 84 false (.ld false 1 t87), .og 89 84 false (.mv t15), .og 90 84 false (.ixs 46 t88 t89), .og 91 84 false (.ld true 46 t90), .og 92 84 false (.call 10 [t86, t91]), .og 93 84 false (.sop .neq t85 t92), .o 94 (.pick t84 ct t93)])
  (.cond t94
  (.seq (io [em 6 cf])
  .ret)
  .skip))
  (.seq (.dops [el 96 true 18 t5, ef 97 1 1 t11, el 98 false 1 t97, em 99 t15, es 100 46 t98 t99, el 101 true 46 t100, ec 102 9 [t96, t101], em 95 t102, ex 103 0 t95, ex 104 1 t95, em 18 t103, em 19 t104])
  (.seq (io [em 105 t9, eb 106 .neq t105 (ci 0), em 107 t106, .og 108 107 true (.mv t19), .og 109 107 true (.un .not t108), .og 110 107 true (.mv t109), .og 111 110 false (.mv t18), .og 112 110 false (.sop .neq t111 (.c (.string ⟨#[]⟩))), .og 113 107 true (.pick t110 ct t112), .o 114 (.pick t107 t113 cf)])
  (.cond t114
  (.seq (io [em 6 cf])
  .ret)
  .skip))))))
  (.ops [em 70 t15, eb 71 .add t70 (ci 1), em 15 t71]))))))
  (.seq (io [em 6 ct])
  .ret)))))))))
theorem hc_l24_BureauCodes : compF Tryz.prog 115 Tryz.f3 = some (ic_l24_BureauCodes, [.t 6]) := by kernel_rfl

theorem fn_l24_playable : Tryz.prog.funcs[l24_playable]? = some Tryz.f4 := Tryz.func4
theorem nt_l24_playable : Tryz.f4.ntmps = 14 := Tryz.ntmps4
def ic_l24_playable : IC := (.seq (io [.o 2 (.box t0), em 4 cf])
  (.seq (io [em 5 t1, .o 6 (.len t5), eb 7 .leq t6 (ci 200), em 8 t7, .og 9 8 true (.fa 17 17 t2), .og 10 8 true (.ld false 1 t9), .og 11 8 true (.len t10), .og 12 8 true (.bin .leq t11 (ci 1000)), .o 13 (.pick t8 t12 cf), em 4 t13])
  .ret))
theorem hc_l24_playable : compF Tryz.prog 14 Tryz.f4 = some (ic_l24_playable, [.t 4]) := by kernel_rfl

theorem fn_r12_Check : Tryz.prog.funcs[r12_Check]? = some Tryz.f5 := Tryz.func5
theorem nt_r12_Check : Tryz.f5.ntmps = 14 := Tryz.ntmps5
def ic_r12_Check : IC := (.seq (io [.o 1 (.box t0), em 2 (ci 0), em 3 (ci 0)])
  (.seq (.seq (io [em 4 (ci 1)])
  (.block 0 (.loop (.seq (.seq (io [em 5 t4, eb 6 .leq t5 (ci 18)])
  (.cond t6
  .skip
  (.exit 0)))
  (.seq (.block 1 (.seq (io [el 9 true 18 t1, em 10 t4, ec 11 11 [t9, t10], .o 12 (.un .not t11)])
  (.cond t12
  (.seq (io [em 13 t4, em 2 (ci 120), em 3 t13])
  .ret)
  .skip)))
  (.ops [em 7 t4, eb 8 .add t7 (ci 1), em 4 t8]))))))
  (.seq (io [em 2 (ci 0), em 3 (ci 0)])
  .ret)))
theorem hc_r12_Check : compF Tryz.prog 14 Tryz.f5 = some (ic_r12_Check, [.t 2, .t 3]) := by kernel_rfl

theorem fn_bureau_Code : Tryz.prog.funcs[bureau_Code]? = some Tryz.f6 := Tryz.func6
theorem nt_bureau_Code : Tryz.f6.ntmps = 29 := Tryz.ntmps6
def ic_bureau_Code : IC := (.seq (io [.o 2 (.box t0), .o 3 (.box t1), em 4 (.c (.string ⟨#[]⟩))])
  (.seq (.seq (io [el 9 true 18 t2, ec 10 12 [t9], em 8 t10, ex 11 0 t8, ex 12 1 t8, em 5 t11, em 6 t12])
  (.seq (io [em 13 t5, eb 14 .neq t13 (ci 0)])
  (.cond t14
  (.seq (io [em 4 (.c (.string ⟨#[]⟩))])
  .ret)
  .skip)))
  (.seq (io [el 15 true 18 t2, el 16 true 46 t3, ec 17 13 [t15, t16], .o 7 (.alloc (.st (zc (zc (zc (zc (zc (zc (zc (zc (zc (zc (zc (zc (zc (zc (zc (zc (zc (zc (zc (zc (zc .nil))))))))))))))))))))))), .n (.sto 21 t7 t17)])
  (.seq (.seq (io [ef 18 0 0 t7, el 19 false 1 t18])
  (.block 0 (.seq (io [eb 21 .eql t19 (ci 9), em 20 t21])
  (.cond t20
  (.seq (io [em 4 (.c (.string ⟨#[67]⟩))])
  .ret)
  (.seq (io [eb 23 .eql t19 (ci 8), em 22 t23])
  (.cond t22
  (.seq (io [em 4 (.c (.string ⟨#[88]⟩))])
  .ret)
  (.seq (io [eb 25 .eql t19 (ci 4), em 24 t25])
  (.cond t24
  (.seq (io [em 4 (.c (.string ⟨#[80]⟩))])
  .ret)
  .skip))))))))
  (.seq (io [ef 26 2 2 t7, el 27 false 1 t26, ec 28 14 [t27], em 4 t28])
  .ret)))))
theorem hc_bureau_Code : compF Tryz.prog 29 Tryz.f6 = some (ic_bureau_Code, [.t 4]) := by kernel_rfl

theorem fn_r15_Begin : Tryz.prog.funcs[r15_Begin]? = some Tryz.f7 := Tryz.func7
theorem nt_r15_Begin : Tryz.f7.ntmps = 6 := Tryz.ntmps7
def ic_r15_Begin : IC := (.seq (io [.o 1 (.box t0), .o 2 (.alloc (.st (zc (.cons zs (.cons zs .nil)))))])
  (.seq (io [ef 3 0 0 t1, el 4 false 1 t3, .o 5 (.build (.st (zc (.cons zs (.cons zs .nil)))) [(0, 0, 1, t4)]), .n (.sto 3 t2 t5)])
  .ret))
theorem hc_r15_Begin : compF Tryz.prog 6 Tryz.f7 = some (ic_r15_Begin, [.c 2 true 3]) := by kernel_rfl

theorem fn_r15_Apply : Tryz.prog.funcs[r15_Apply]? = some Tryz.f8 := Tryz.func8
theorem nt_r15_Apply : Tryz.f8.ntmps = 43 := Tryz.ntmps8
def ic_r15_Apply : IC := (.seq (io [.o 3 (.box t0), .o 4 (.box t1), .o 5 (.box t2), .o 6 (.alloc (.st (zc (.cons zs (.cons zs .nil))))), .o 7 (.alloc (.st (zc (.cons zs .nil))))])
  (.seq (.seq (io [ef 8 0 0 t5, el 9 false 1 t8, eb 10 .eql t9 (ci 1)])
  (.cond t10
  (.seq (io [el 11 true 18 t3, el 12 true 3 t4, el 13 true 7 t5, ec 14 15 [t11, t12, t13], ex 15 0 t14, ex 16 1 t14, .n (.sto 3 t6 t15), .n (.sto 2 t7 t16)])
  .ret)
  .skip))
  (.seq (.seq (io [ef 17 0 0 t5, el 18 false 1 t17, eb 19 .eql t18 (ci 8)])
  (.cond t19
  (.seq (io [el 20 true 18 t3, el 21 true 3 t4, ef 22 5 5 t5, el 23 false 1 t22, ec 24 16 [t20, t21, t23], ex 25 0 t24, ex 26 1 t24, .n (.sto 3 t6 t25), .n (.sto 2 t7 t26)])
  .ret)
  .skip))
  (.seq (.seq (io [ef 27 0 0 t5, el 28 false 1 t27, eb 29 .geq t28 (ci 2), em 30 t29, .og 31 30 true (.fa 0 0 t5), .og 32 30 true (.ld false 1 t31), .og 33 30 true (.bin .leq t32 (ci 7)), .o 34 (.pick t30 t33 cf)])
  (.cond t34
  (.seq (io [el 35 true 18 t3, el 36 true 3 t4, el 37 true 7 t5, ec 38 17 [t35, t36, t37], ex 39 0 t38, ex 40 1 t38, .n (.sto 3 t6 t39), .n (.sto 2 t7 t40)])
  .ret)
  .skip))
  (.seq (.dops [el 41 true 3 t4, ec 42 18 [(ci 153)], .n (.sto 3 t6 t41), .n (.sto 2 t7 t42)])
  .ret)))))
theorem hc_r15_Apply : compF Tryz.prog 43 Tryz.f8 = some (ic_r15_Apply, [.c 6 true 3, .c 7 true 2]) := by kernel_rfl

theorem fn_l24_code : Tryz.prog.funcs[l24_code]? = some Tryz.f9 := Tryz.func9
theorem nt_l24_code : Tryz.f9.ntmps = 38 := Tryz.ntmps9
def ic_l24_code : IC := (.seq (io [.o 2 (.box t0), .o 3 (.box t1), em 4 (.c (.string ⟨#[]⟩)), em 5 cf])
  (.seq (io [el 9 true 46 t3, .o 6 (.alloc (.st (zc (.cons (.st (zc (zc (zc (zc (zc (zc .nil))))))) (.cons zs (.cons (.st (.cons (.arr 12 1 fun _ => zi) .nil)) (.cons (.st (zc (zf (zc (zc (zc (zc (zc (zc (zc (zc (zc (zc (zc (zc (zc .nil)))))))))))))))) (zc (zc (zc (.cons (.st (zc (zc (zc (zc (zc .nil)))))) (zf (zc (zc .nil)))))))))))))), .n (.sto 46 t6 t9)])
  (.seq (io [.o 10 (.bsl 4 69 (.st (zc (zc (zc (zf .nil))))) []), ef 11 2 7 t3, el 12 false 1 t11, .o 13 (.app 4 32 69 t10 t12), ef 14 2 7 t6, .n (.sto 1 t14 t13)])
  (.seq (.dops [el 15 true 18 t2, ec 16 19 [t15], el 17 true 46 t6, ec 18 6 [t16, t17], em 7 t18])
  (.seq (.seq (io [em 8 (ci 0)])
  (.block 0 (.loop (.seq (.seq (io [em 19 t8, ef 20 2 7 t3, el 21 false 1 t20, .o 22 (.len t21), eb 23 .lss t19 t22])
  (.cond t23
  .skip
  (.exit 0)))
  (.seq (.block 1 (.seq (.dops [ef 26 2 7 t6, el 27 false 1 t26, em 28 t8, es 29 4 t27 t28, el 30 true 4 t29, ef 31 2 7 t3, el 32 false 1 t31, em 33 t8, es 34 4 t32 t33, el 35 true 4 t34, .o 36 (.eqs true (.st (.cons .int (.cons .int (.cons .int (.cons .bool .nil))))) t30 t35)])
  (.cond t36
  (.seq (io [em 4 (.c (.string ⟨#[]⟩)), em 5 cf])
  .ret)
  .skip)))
  (.ops [em 24 t8, eb 25 .add t24 (ci 1), em 8 t25]))))))
  (.seq (io [em 37 t7, em 4 t37, em 5 ct])
  .ret))))))
theorem hc_l24_code : compF Tryz.prog 38 Tryz.f9 = some (ic_l24_code, [.t 4, .t 5]) := by kernel_rfl

theorem fn_r24_Code : Tryz.prog.funcs[r24_Code]? = some Tryz.f10 := Tryz.func10
theorem nt_r24_Code : Tryz.f10.ntmps = 33 := Tryz.ntmps10
def ic_r24_Code : IC := (.seq (io [.o 2 (.box t0), .o 3 (.box t1), em 4 (.c (.string ⟨#[]⟩))])
  (.seq (io [el 9 true 18 t2, ec 10 5 [t9], em 8 t10, ex 11 0 t8, ex 12 1 t8, em 5 t11, em 6 t12])
  (.seq (.seq (io [em 13 t5, eb 14 .neq t13 (ci 0)])
  (.cond t14
  (.seq (io [em 4 (.c (.string ⟨#[]⟩))])
  .ret)
  .skip))
  (.seq (io [el 15 true 18 t2, el 16 true 46 t3, ec 17 20 [t15, t16], .o 7 (.alloc (.st (zc (zc (zc (zc (zc (zc (zc (zc (zc (zc (zc (zc (zc (zc (zc (zc (zc (zc (zc (zc (zc .nil))))))))))))))))))))))), .n (.sto 21 t7 t17)])
  (.seq (.seq (io [ef 18 0 0 t7, el 19 false 1 t18, eb 20 .eql t19 (ci 9)])
  (.cond t20
  (.seq (io [em 4 (.c (.string ⟨#[67]⟩))])
  .ret)
  .skip))
  (.seq (.seq (io [ef 21 0 0 t7, el 22 false 1 t21, eb 23 .eql t22 (ci 8)])
  (.cond t23
  (.seq (io [em 4 (.c (.string ⟨#[88]⟩))])
  .ret)
  .skip))
  (.seq (.seq (io [ef 24 0 0 t7, el 25 false 1 t24, eb 26 .eql t25 (ci 4)])
  (.cond t26
  (.seq (io [em 4 (.c (.string ⟨#[80]⟩))])
  .ret)
  .skip))
  (.seq (io [ef 27 2 2 t7, el 28 false 1 t27, eb 29 .add (ci 48) t28, .o 30 (.conv .u8 t29), .o 31 (.bsl 1 5 (.val (.int .u8 0)) [(0, 0, 1, t30)]), .o 32 (.b2s t31), em 4 t32])
  .ret))))))))
theorem hc_r24_Code : compF Tryz.prog 33 Tryz.f10 = some (ic_r24_Code, [.t 4]) := by kernel_rfl

theorem fn_r12_may : Tryz.prog.funcs[r12_may]? = some Tryz.f11 := Tryz.func11
theorem nt_r12_may : Tryz.f11.ntmps = 105 := Tryz.ntmps11
def ic_r12_may : IC := (.seq (io [.o 2 (.box t0), em 4 cf])
  (.seq (.seq (io [em 5 t1])
  (.block 0 (.seq (io [eb 7 .eql t5 (ci 1), em 6 t7])
  (.cond t6
  (.seq (io [ef 8 0 0 t2, el 9 false 1 t8, ec 10 21 [t9, (ci 1), (ci 3652059)], em 4 t10])
  .ret)
  (.seq (io [eb 12 .eql t5 (ci 2), em 11 t12])
  (.cond t11
  (.seq (io [ef 13 1 1 t2, el 14 false 1 t13, ec 15 21 [t14, (ci 0), (ci 30)], em 4 t15])
  .ret)
  (.seq (io [eb 17 .eql t5 (ci 3), em 16 t17])
  (.cond t16
  (.seq (io [ef 18 2 2 t2, el 19 false 1 t18, ef 20 1 1 t2, el 21 false 1 t20, eb 22 .gtr t19 t21, em 23 t22, .og 24 23 true (.fa 2 2 t2), .og 25 23 true (.ld false 1 t24), .og 26 23 true (.bin .leq t25 (ci 365)), .o 27 (.pick t23 t26 cf), em 4 t27])
  .ret)
  (.seq (io [eb 29 .eql t5 (ci 4), em 28 t29])
  (.cond t28
  (.seq (io [ef 30 3 3 t2, el 31 false 1 t30, ec 32 21 [t31, (ci 1), (ci 365)], em 4 t32])
  .ret)
  (.seq (io [eb 34 .eql t5 (ci 5), em 33 t34])
  (.cond t33
  (.seq (io [ef 35 4 4 t2, el 36 false 1 t35, ec 37 21 [t36, (ci 0), (ci 10000)], em 4 t37])
  .ret)
  (.seq (io [eb 39 .eql t5 (ci 6), em 38 t39])
  (.cond t38
  (.seq (io [ef 40 5 5 t2, el 41 false 1 t40, ec 42 21 [t41, (ci 0), (ci 1000000000)], em 4 t42])
  .ret)
  (.seq (io [eb 44 .eql t5 (ci 7), em 43 t44])
  (.cond t43
  (.seq (io [ef 45 6 6 t2, el 46 false 1 t45, ef 47 5 5 t2, el 48 false 1 t47, ec 49 21 [t46, t48, (ci 1000000000)], em 4 t49])
  .ret)
  (.seq (io [eb 51 .eql t5 (ci 8), em 50 t51])
  (.cond t50
  (.seq (io [ef 52 7 7 t2, el 53 false 1 t52, ec 54 21 [t53, (ci 0), (ci 1000000000)], em 4 t54])
  .ret)
  (.seq (io [eb 56 .eql t5 (ci 9), em 55 t56])
  (.cond t55
  (.seq (io [ef 57 8 8 t2, el 58 false 1 t57, ec 59 21 [t58, (ci 0), (ci 1000000000)], em 4 t59])
  .ret)
  (.seq (io [eb 61 .eql t5 (ci 10), em 60 t61])
  (.cond t60
  (.seq (io [ef 62 9 9 t2, el 63 false 1 t62, ec 64 21 [t63, (ci 0), (ci 8)], em 4 t64])
  .ret)
  (.seq (io [eb 66 .eql t5 (ci 11), em 65 t66])
  (.cond t65
  (.seq (io [ef 67 10 10 t2, el 68 false 1 t67, ec 69 21 [t68, (ci 1), (ci 60)], em 4 t69])
  .ret)
  (.seq (io [eb 71 .eql t5 (ci 12), em 70 t71])
  (.cond t70
  (.seq (io [ef 72 11 11 t2, el 73 false 1 t72, ec 74 21 [t73, (ci 0), (ci 4)], em 4 t74])
  .ret)
  (.seq (io [eb 76 .eql t5 (ci 13), em 75 t76])
  (.cond t75
  (.seq (io [ef 77 12 12 t2, el 78 false 1 t77, ec 79 21 [t78, (ci 0), (ci 5)], em 4 t79])
  .ret)
  (.seq (io [eb 81 .eql t5 (ci 14), em 80 t81])
  (.cond t80
  (.seq (io [ef 82 13 13 t2, el 83 false 1 t82, ec 84 21 [t83, (ci 0), (ci 3)], em 4 t84])
  .ret)
  (.seq (io [eb 86 .eql t5 (ci 15), em 85 t86])
  (.cond t85
  (.seq (io [ef 87 14 14 t2, el 88 false 1 t87, ec 89 21 [t88, (ci 1), (ci 64)], em 4 t89])
  .ret)
  (.seq (io [eb 91 .eql t5 (ci 16), em 90 t91])
  (.cond t90
  (.seq (io [ef 92 15 15 t2, el 93 false 1 t92, ef 94 14 14 t2, el 95 false 1 t94, ec 96 21 [t93, t95, (ci 64)], em 4 t96])
  .ret)
  (.seq (io [eb 98 .eql t5 (ci 17), em 97 t98])
  (.cond t97
  (.seq (io [ef 99 16 16 t2, el 100 false 1 t99, ec 101 21 [t100, (ci 0), (ci 1000)], em 4 t101])
  .ret)
  .skip))))))))))))))))))))))))))))))))))))
  (.seq (io [ef 102 17 17 t2, el 103 false 1 t102, ec 104 22 [t103], em 4 t104])
  .ret)))
theorem hc_r12_may : compF Tryz.prog 105 Tryz.f11 = some (ic_r12_may, [.t 4]) := by kernel_rfl

theorem fn_policy_Check : Tryz.prog.funcs[policy_Check]? = some Tryz.f12 := Tryz.func12
theorem nt_policy_Check : Tryz.f12.ntmps = 21 := Tryz.ntmps12
def ic_policy_Check : IC := (.seq (io [.o 1 (.box t0), em 2 (ci 0), em 3 (ci 0)])
  (.seq (.seq (io [ec 6 23 [], .o 7 (.len t6), em 8 (ci 0)])
  (.block 0 (.loop (.seq (io [eb 9 .lss t8 t7])
  (.seq (.cond t9
  .skip
  (.exit 0))
  (.seq (.block 1 (.seq (io [em 10 t8, es 11 1 t6 t8, el 12 true 1 t11, .o 5 (.alloc (.st (.cons (.val (.nilFunc)) .nil))), em 4 t10, .n (.sto 1 t5 t12)])
  (.seq (io [ef 13 0 0 t5, el 14 false 1 t13, el 15 true 18 t1, .o 16 (.calv t14 [t15]), .o 17 (.un .not t16)])
  (.cond t17
  (.seq (io [em 18 t4, eb 19 .add t18 (ci 1), em 2 (ci 120), em 3 t19])
  .ret)
  .skip))))
  (.ops [eb 20 .add t8 (ci 1), em 8 t20])))))))
  (.seq (io [em 2 (ci 0), em 3 (ci 0)])
  .ret)))
theorem hc_policy_Check : compF Tryz.prog 21 Tryz.f12 = some (ic_policy_Check, [.t 2, .t 3]) := by kernel_rfl

theorem fn_loan_Look : Tryz.prog.funcs[loan_Look]? = some Tryz.f13 := Tryz.func13
theorem nt_loan_Look : Tryz.f13.ntmps = 93 := Tryz.ntmps13
def ic_loan_Look : IC := (.seq (io [.o 2 (.box t0), .o 3 (.box t1), .o 4 (.alloc (.st (zc (zc (zc (zc (zc (zc (zc (zc (zc (zc (zc (zc (zc (zc (zc (zc (zc (zc (zc (zc (zc .nil)))))))))))))))))))))))])
  (.seq (io [.o 12 (.mkf (.func 24) [] [t4]), .n (.dfr t12)])
  (.seq (io [el 14 true 18 t2, ec 15 12 [t14], em 13 t15, ex 16 0 t13, ex 17 1 t13, em 5 t16, em 6 t17])
  (.seq (io [em 18 t5, ec 19 25 [t18]])
  (.seq (.dopr 3 [(el 20 true 46 t3, []), (ec 21 26 [t20], []), (el 22 true 46 t3, []), (ec 23 27 [t22], []), (ef 24 4 20 t3, []), (el 25 true 15 t24, [3, 2]), (.o 7 (.alcN 3 (.st (zc (zc (zc .nil))))), []), (.o 8 (.alcN 2 (.st (zc (zc .nil)))), []), (.o 9 (.alcN 1 (.st (zc (zf (zc (zc (zc (zc (zc (zc (zc (zc (zc (zc (zc (zc (zc .nil))))))))))))))))), []), (.n (.stoN 3 3 t7 t21), []), (.n (.stoN 2 2 t8 t23), []), (.n (.stoN 1 15 t9 t25), [])])
  (.seq (.dops [ef 26 0 0 t9, el 27 false 1 t26, ef 28 2 7 t3, el 29 false 1 t28, el 30 true 2 t8, ef 31 5 35 t3, el 32 false 1 t31, ec 33 28 [t29, t30, t32], ef 34 2 7 t3, el 35 false 1 t34, el 36 true 2 t8, ef 37 5 35 t3, el 38 false 1 t37, ec 39 29 [t35, t36, t38], ef 40 0 0 t7, el 41 false 1 t40, ef 42 1 1 t7, el 43 false 1 t42, ef 44 2 2 t7, el 45 false 1 t44, el 46 true 46 t3, ec 47 30 [t46, (ci 4)], el 48 true 46 t3, ec 49 30 [t48, (ci 5)], ef 50 2 2 t9, el 51 false 1 t50, ef 52 11 11 t9, el 53 false 1 t52, ef 54 9 9 t9, el 55 false 1 t54, ef 56 10 10 t9, el 57 false 1 t56, ef 58 12 12 t9, el 59 false 1 t58, ef 60 5 5 t9, el 61 false 1 t60, ef 62 6 6 t9, el 63 false 1 t62, ef 64 4 4 t9, el 65 false 1 t64, ef 66 14 14 t9, el 67 false 1 t66, ef 68 10 44 t3, el 69 false 1 t68, el 70 true 46 t3, ec 71 30 [t70, (ci 10)], .o 72 (.build (.st (zc (zc (zc (zc (zc (zc (zc (zc (zc (zc (zc (zc (zc (zc (zc (zc (zc (zc (zc (zc (zc .nil)))))))))))))))))))))) [(0, 0, 1, t27), (1, 1, 1, t33), (3, 3, 1, t39), (4, 4, 1, t41), (5, 5, 1, t43), (6, 6, 1, t45), (7, 7, 1, t47), (8, 8, 1, t49), (9, 9, 1, t51), (10, 10, 1, t53), (11, 11, 1, t55), (12, 12, 1, t57), (13, 13, 1, t59), (14, 14, 1, t61), (15, 15, 1, t63), (16, 16, 1, t65), (18, 18, 1, t67), (19, 19, 1, t69), (20, 20, 1, t71)]), .n (.sto 21 t4 t72)])
  (.seq (io [ef 73 1 1 t4, el 74 false 1 t73, ec 75 31 [t74], ef 76 2 2 t4, .n (.sto 1 t76 t75)])
  (.seq (.seq (io [ef 78 2 7 t3, el 79 false 1 t78, el 80 true 2 t8, ec 81 32 [t79, t80], em 77 t81, ex 82 0 t77, ex 83 1 t77, em 10 t82, em 11 t83])
  (.seq (io [em 84 t11])
  (.cond t84
  (.ops [ef 85 2 7 t3, el 86 false 1 t85, em 87 t10, es 88 4 t86 t87, ef 89 0 0 t88, el 90 false 1 t89, ef 91 17 17 t4, .n (.sto 1 t91 t90)])
  .skip)))
  (.seq (io [el 92 true 21 t4, .n (.sto 21 t4 t92)])
  .ret)))))))))
theorem hc_loan_Look : compF Tryz.prog 93 Tryz.f13 = some (ic_loan_Look, [.c 4 true 21]) := by kernel_rfl

theorem fn_strconv_Itoa : Tryz.prog.funcs[strconv_Itoa]? = some Tryz.f14 := Tryz.func14
theorem nt_strconv_Itoa : Tryz.f14.ntmps = 5 := Tryz.ntmps14
def ic_strconv_Itoa : IC := (.seq (io [em 2 (.c (.string ⟨#[]⟩))])
  (.seq (io [em 3 t0, ec 4 33 [t3], em 2 t4])
  .ret))
theorem hc_strconv_Itoa : compF Tryz.prog 5 Tryz.f14 = some (ic_strconv_Itoa, [.t 2]) := by kernel_rfl

theorem fn_r15_opened : Tryz.prog.funcs[r15_opened]? = some Tryz.f15 := Tryz.func15
theorem nt_r15_opened : Tryz.f15.ntmps = 122 := Tryz.ntmps15
def ic_r15_opened : IC := (.seq (io [.o 3 (.box t0), .o 4 (.box t1), .o 5 (.box t2), .o 6 (.alloc (.st (zc (.cons zs (.cons zs .nil))))), .o 7 (.alloc (.st (zc (.cons zs .nil))))])
  (.seq (.seq (io [ef 12 1 1 t5, el 13 false 1 t12, eb 14 .lss t13 (ci 1), em 15 t14, .og 16 15 false (.fa 1 1 t5), .og 17 15 false (.ld false 1 t16), .og 18 15 false (.bin .gtr t17 (ci 999999)), .o 19 (.pick t15 ct t18)])
  (.cond t19
  (.seq (.dops [el 20 true 3 t4, ec 21 18 [(ci 2)], .n (.sto 3 t6 t20), .n (.sto 2 t7 t21)])
  .ret)
  .skip))
  (.seq (.seq (io [el 22 true 3 t4, ef 23 1 1 t5, el 24 false 1 t23, ec 25 34 [t22, t24], eb 26 .geq t25 (ci 0)])
  (.cond t26
  (.seq (.dops [el 27 true 3 t4, ec 28 18 [(ci 151)], .n (.sto 3 t6 t27), .n (.sto 2 t7 t28)])
  .ret)
  .skip))
  (.seq (.seq (io [ef 29 1 1 t4, el 30 false 1 t29, .o 31 (.len t30), eb 32 .geq t31 (ci 32)])
  (.cond t32
  (.seq (.dops [el 33 true 3 t4, ec 34 18 [(ci 152)], .n (.sto 3 t6 t33), .n (.sto 2 t7 t34)])
  .ret)
  .skip))
  (.seq (io [el 35 true 18 t3, ef 36 1 1 t5, el 37 false 1 t36, ef 38 5 5 t5, el 39 false 1 t38, ef 40 2 2 t5, el 41 false 1 t40, ef 42 3 3 t5, el 43 false 1 t42, ef 44 4 4 t5, el 45 false 1 t44, ef 46 0 0 t4, el 47 false 1 t46, ef 48 13 13 t3, el 49 false 1 t48, .o 50 (.build (.st (zc (zc (zc (zc (zc (zc .nil))))))) [(0, 0, 1, t39), (1, 1, 1, t41), (2, 2, 1, t43), (3, 3, 1, t45), (4, 4, 1, t47), (5, 5, 1, t49)]), ec 51 35 [t35, t37, t50], .o 8 (.alloc (.st (.cons (.st (zc (.cons (.st (zc (zc (zc (zc (zc (zc .nil))))))) (.cons zs (.cons (.st (.cons (.arr 12 1 fun _ => zi) .nil)) (.cons (.st (zc (zf (zc (zc (zc (zc (zc (zc (zc (zc (zc (zc (zc (zc (zc .nil)))))))))))))))) (zc (zc (zc (.cons (.st (zc (zc (zc (zc (zc .nil)))))) (zf (zc (zc .nil))))))))))))) (.cons (.st (zc (zc (zc (zc (zc .nil)))))) (.cons zs (zc .nil)))))), .n (.sto 53 t8 t51)])
  (.seq (.seq (io [ef 52 3 52 t8, el 53 false 1 t52, eb 54 .neq t53 (ci 0)])
  (.cond t54
  (.seq (.dopss [(el 55 true 3 t4, []), (ef 56 3 52 t8, []), (el 57 false 1 t56, [6]), (.o 58 (.build (.st (zc (.cons zs .nil))) [(0, 0, 1, t57)]), []), (.n (.sto 3 t6 t55), []), (.n (.sto 2 t7 t58), [])])
  .ret)
  .skip))
  (.seq (io [em 9 (.c (.slice none 0 0))])
  (.seq (.seq (io [em 10 (ci 0)])
  (.block 0 (.loop (.seq (.seq (io [em 59 t10, ef 60 1 1 t4, el 61 false 1 t60, .o 62 (.len t61), eb 63 .lss t59 t62])
  (.cond t63
  .skip
  (.exit 0)))
  (.seq (.block 1 (.seq (.dops [ef 66 1 1 t4, el 67 false 1 t66, em 68 t10, es 69 46 t67 t68, ef 70 0 0 t69, el 71 false 1 t70, ef 72 1 1 t5, el 73 false 1 t72, eb 74 .lss t71 t73])
  (.cond t74
  (.ops [em 75 t9, ef 76 1 1 t4, el 77 false 1 t76, em 78 t10, es 79 46 t77 t78, el 80 true 46 t79, .o 81 (.bsl 46 41 (.st (zc (.cons (.st (zc (zc (zc (zc (zc (zc .nil))))))) (.cons zs (.cons (.st (.cons (.arr 12 1 fun _ => zi) .nil)) (.cons (.st (zc (zf (zc (zc (zc (zc (zc (zc (zc (zc (zc (zc (zc (zc (zc .nil)))))))))))))))) (zc (zc (zc (.cons (.st (zc (zc (zc (zc (zc .nil)))))) (zf (zc (zc .nil))))))))))))) [(0, 0, 46, t80)]), .o 82 (.app 46 384 41 t75 t81), em 9 t82])
  .skip)))
  (.ops [em 64 t10, eb 65 .add t64 (ci 1), em 10 t65]))))))
  (.seq (io [em 83 t9, ef 84 0 0 t8, el 85 true 46 t84, .o 86 (.bsl 46 41 (.st (zc (.cons (.st (zc (zc (zc (zc (zc (zc .nil))))))) (.cons zs (.cons (.st (.cons (.arr 12 1 fun _ => zi) .nil)) (.cons (.st (zc (zf (zc (zc (zc (zc (zc (zc (zc (zc (zc (zc (zc (zc (zc .nil)))))))))))))))) (zc (zc (zc (.cons (.st (zc (zc (zc (zc (zc .nil)))))) (zf (zc (zc .nil))))))))))))) [(0, 0, 46, t85)]), .o 87 (.app 46 384 41 t83 t86), em 9 t87])
  (.seq (.seq (io [em 11 (ci 0)])
  (.block 2 (.loop (.seq (.seq (io [em 88 t11, ef 89 1 1 t4, el 90 false 1 t89, .o 91 (.len t90), eb 92 .lss t88 t91])
  (.cond t92
  .skip
  (.exit 2)))
  (.seq (.block 3 (.seq (.dops [ef 95 1 1 t4, el 96 false 1 t95, em 97 t11, es 98 46 t96 t97, ef 99 0 0 t98, el 100 false 1 t99, ef 101 1 1 t5, el 102 false 1 t101, eb 103 .gtr t100 t102])
  (.cond t103
  (.ops [em 104 t9, ef 105 1 1 t4, el 106 false 1 t105, em 107 t11, es 108 46 t106 t107, el 109 true 46 t108, .o 110 (.bsl 46 41 (.st (zc (.cons (.st (zc (zc (zc (zc (zc (zc .nil))))))) (.cons zs (.cons (.st (.cons (.arr 12 1 fun _ => zi) .nil)) (.cons (.st (zc (zf (zc (zc (zc (zc (zc (zc (zc (zc (zc (zc (zc (zc (zc .nil)))))))))))))))) (zc (zc (zc (.cons (.st (zc (zc (zc (zc (zc .nil)))))) (zf (zc (zc .nil))))))))))))) [(0, 0, 46, t109)]), .o 111 (.app 46 384 41 t104 t110), em 9 t111])
  .skip)))
  (.ops [em 93 t11, eb 94 .add t93 (ci 1), em 11 t94]))))))
  (.seq (io [em 112 t9, ef 113 1 1 t4, .n (.sto 1 t113 t112)])
  (.seq (.dops [el 114 true 3 t4, ef 115 2 51 t8, el 116 false 1 t115, ec 117 36 [t114, t116], ef 118 0 0 t8, el 119 true 46 t118, ec 120 37 [t119], .o 121 (.build (.st (zc (.cons zs .nil))) [(1, 1, 1, t120)]), .n (.sto 3 t6 t117), .n (.sto 2 t7 t121)])
  .ret))))))))))))
theorem hc_r15_opened : compF Tryz.prog 122 Tryz.f15 = some (ic_r15_opened, [.c 6 true 3, .c 7 true 2]) := by kernel_rfl

theorem fn_r15_days : Tryz.prog.funcs[r15_days]? = some Tryz.f16 := Tryz.func16
theorem nt_r15_days : Tryz.f16.ntmps = 61 := Tryz.ntmps16
def ic_r15_days : IC := (.seq (io [.o 3 (.box t0), .o 4 (.box t1), .o 6 (.alloc (.st (zc (.cons zs (.cons zs .nil))))), .o 7 (.alloc (.st (zc (.cons zs .nil))))])
  (.seq (.seq (io [em 13 t2, eb 14 .lss t13 (ci 1), em 15 t14, .og 16 15 false (.mv t2), .og 17 15 false (.bin .gtr t16 (ci 60)), .o 18 (.pick t15 ct t17)])
  (.cond t18
  (.seq (.dops [el 19 true 3 t4, ec 20 18 [(ci 2)], .n (.sto 3 t6 t19), .n (.sto 2 t7 t20)])
  .ret)
  .skip))
  (.seq (.seq (io [ef 21 0 0 t4, el 22 false 1 t21, em 23 t2, eb 24 .sub (ci 3652059) t23, eb 25 .gtr t22 t24])
  (.cond t25
  (.seq (.dops [el 26 true 3 t4, ec 27 18 [(ci 141)], .n (.sto 3 t6 t26), .n (.sto 2 t7 t27)])
  .ret)
  .skip))
  (.seq (io [el 28 true 3 t4, .o 8 (.alloc (.st (zc (.cons zs (.cons zs .nil))))), .n (.sto 3 t8 t28)])
  (.seq (.seq (io [em 9 (ci 0)])
  (.block 0 (.loop (.seq (.seq (io [em 29 t9, em 30 t2, eb 31 .lss t29 t30])
  (.cond t31
  .skip
  (.exit 0)))
  (.seq (.block 1 (.seq (io [el 35 true 18 t3, el 36 true 3 t8, ec 37 38 [t35, t36], em 34 t37, ex 38 0 t34, ex 39 1 t34, .o 10 (.alloc (.st (zc (.cons zs (.cons zs .nil))))), .n (.sto 3 t10 t38), em 11 t39])
  (.seq (.seq (io [em 40 t11, eb 41 .neq t40 (ci 0)])
  (.cond t41
  (.seq (io [el 42 true 3 t4, em 43 t11, .o 44 (.build (.st (zc (.cons zs .nil))) [(0, 0, 1, t43)]), .n (.sto 3 t6 t42), .n (.sto 2 t7 t44)])
  .ret)
  .skip))
  (.ops [el 45 true 3 t10, .n (.sto 3 t8 t45)]))))
  (.ops [em 32 t9, eb 33 .add t32 (ci 1), em 9 t33]))))))
  (.seq (io [em 12 (.c (.slice none 0 0))])
  (.seq (io [em 46 t12, ef 47 0 0 t8, el 48 false 1 t47, ef 49 2 2 t8, el 50 false 1 t49, .o 51 (.len t50), ef 52 2 2 t4, el 53 false 1 t52, .o 54 (.len t53), eb 55 .sub t51 t54, .o 56 (.bsl 1 2 zi [(0, 0, 1, t48), (1, 1, 1, t55)]), .o 57 (.app 1 8 2 t46 t56), em 12 t57])
  (.seq (io [el 58 true 3 t8, em 59 t12, .o 60 (.build (.st (zc (.cons zs .nil))) [(1, 1, 1, t59)]), .n (.sto 3 t6 t58), .n (.sto 2 t7 t60)])
  .ret))))))))
theorem hc_r15_days : compF Tryz.prog 61 Tryz.f16 = some (ic_r15_days, [.c 6 true 3, .c 7 true 2]) := by kernel_rfl

theorem fn_r15_onLoan : Tryz.prog.funcs[r15_onLoan]? = some Tryz.f17 := Tryz.func17
theorem nt_r15_onLoan : Tryz.f17.ntmps = 84 := Tryz.ntmps17
def ic_r15_onLoan : IC := (.seq (io [.o 3 (.box t0), .o 4 (.box t1), .o 5 (.box t2), .o 6 (.alloc (.st (zc (.cons zs (.cons zs .nil))))), .o 7 (.alloc (.st (zc (.cons zs .nil))))])
  (.seq (io [el 10 true 3 t4, ef 11 1 1 t5, el 12 false 1 t11, ec 13 34 [t10, t12], em 8 t13])
  (.seq (.seq (io [em 14 t8, eb 15 .lss t14 (ci 0)])
  (.cond t15
  (.seq (.dops [el 16 true 3 t4, ec 17 18 [(ci 150)], .n (.sto 3 t6 t16), .n (.sto 2 t7 t17)])
  .ret)
  .skip))
  (.seq (.seq (io [ef 18 0 0 t5, el 19 false 1 t18, eb 20 .eql t19 (ci 2), em 21 t20, .og 22 21 true (.fa 4 4 t5), .og 23 21 true (.ld false 1 t22), .og 24 21 true (.bin .lss t23 (ci 0)), .o 25 (.pick t21 t24 cf)])
  (.cond t25
  (.seq (.dops [el 26 true 3 t4, ec 27 18 [(ci 2)], .n (.sto 3 t6 t26), .n (.sto 2 t7 t27)])
  .ret)
  .skip))
  (.seq (.seq (.dops [ef 28 0 0 t5, el 29 false 1 t28, eb 30 .eql t29 (ci 2), em 31 t30, .og 32 31 true (.fa 4 4 t5), .og 33 31 true (.ld false 1 t32), .og 34 31 true (.bin .gtr t33 (ci 0)), .o 35 (.pick t31 t34 cf), em 36 t35, .og 37 36 true (.fa 4 4 t5), .og 38 36 true (.ld false 1 t37), .og 39 36 true (.fa 1 1 t4), .og 40 36 true (.ld false 1 t39), .og 41 36 true (.mv t8), .og 42 36 true (.ixs 46 t40 t41), .og 43 36 true (.fa 11 45 t42), .og 44 36 true (.ld false 1 t43), .og 45 36 true (.bin .leq t38 t44), .o 46 (.pick t36 t45 cf)])
  (.cond t46
  (.seq (.dops [el 47 true 3 t4, ec 48 18 [(ci 151)], .n (.sto 3 t6 t47), .n (.sto 2 t7 t48)])
  .ret)
  .skip))
  (.seq (.dops [el 49 true 18 t3, ef 50 1 1 t4, el 51 false 1 t50, em 52 t8, es 53 46 t51 t52, el 54 true 46 t53, el 55 true 7 t5, ec 56 39 [t49, t54, t55], .o 9 (.alloc (.st (.cons (.st (zc (.cons (.st (zc (zc (zc (zc (zc (zc .nil))))))) (.cons zs (.cons (.st (.cons (.arr 12 1 fun _ => zi) .nil)) (.cons (.st (zc (zf (zc (zc (zc (zc (zc (zc (zc (zc (zc (zc (zc (zc (zc .nil)))))))))))))))) (zc (zc (zc (.cons (.st (zc (zc (zc (zc (zc .nil)))))) (zf (zc (zc .nil))))))))))))) (.cons (.st (zc (zc (zc (zc (zc .nil)))))) (.cons zs (zc .nil)))))), .n (.sto 53 t9 t56)])
  (.seq (.seq (io [ef 57 3 52 t9, el 58 false 1 t57, eb 59 .neq t58 (ci 0)])
  (.cond t59
  (.seq (.dopss [(el 60 true 3 t4, []), (ef 61 3 52 t9, []), (el 62 false 1 t61, [6]), (.o 63 (.build (.st (zc (.cons zs .nil))) [(0, 0, 1, t62)]), []), (.n (.sto 3 t6 t60), []), (.n (.sto 2 t7 t63), [])])
  .ret)
  .skip))
  (.seq (.seq (io [ef 64 0 0 t5, el 65 false 1 t64, eb 66 .eql t65 (ci 2), em 67 t66, .og 68 67 true (.fa 4 4 t5), .og 69 67 true (.ld false 1 t68), .og 70 67 true (.bin .gtr t69 (ci 0)), .o 71 (.pick t67 t70 cf)])
  (.cond t71
  (.ops [ef 72 4 4 t5, el 73 false 1 t72, ef 74 0 0 t9, ef 75 11 45 t74, .n (.sto 1 t75 t73)])
  .skip))
  (.seq (.dops [el 76 true 3 t4, em 77 t8, el 78 true 53 t9, ec 79 40 [t76, t77, t78], el 80 true 7 t5, el 81 true 53 t9, ec 82 41 [t80, t81], .o 83 (.build (.st (zc (.cons zs .nil))) [(1, 1, 1, t82)]), .n (.sto 3 t6 t79), .n (.sto 2 t7 t83)])
  .ret)))))))))
theorem hc_r15_onLoan : compF Tryz.prog 84 Tryz.f17 = some (ic_r15_onLoan, [.c 6 true 3, .c 7 true 2]) := by kernel_rfl

theorem fn_r15_refusal : Tryz.prog.funcs[r15_refusal]? = some Tryz.f18 := Tryz.func18
theorem nt_r15_refusal : Tryz.f18.ntmps = 5 := Tryz.ntmps18
def ic_r15_refusal : IC := (.seq (io [.o 2 (.alloc (.st (zc (.cons zs .nil))))])
  (.seq (io [em 3 t0, .o 4 (.build (.st (zc (.cons zs .nil))) [(0, 0, 1, t3)]), .n (.sto 2 t2 t4)])
  .ret))
theorem hc_r15_refusal : compF Tryz.prog 5 Tryz.f18 = some (ic_r15_refusal, [.c 2 true 2]) := by kernel_rfl

theorem fn_l24_ownPolicy : Tryz.prog.funcs[l24_ownPolicy]? = some Tryz.f19 := Tryz.func19
theorem nt_l24_ownPolicy : Tryz.f19.ntmps = 9 := Tryz.ntmps19
def ic_l24_ownPolicy : IC := (.seq (io [.o 1 (.box t0), .o 2 (.alloc (.st (zc (zc (zc (zc (zc (zc (zc (zc (zc (zc (zc (zc (zc (zc (zc (zc (zc (.cons zs .nil))))))))))))))))))))])
  (.seq (io [.o 3 (.bsl 1 3 zi []), ef 4 17 17 t1, el 5 false 1 t4, .o 6 (.app 1 8 3 t3 t5), ef 7 17 17 t1, .n (.sto 1 t7 t6)])
  (.seq (io [el 8 true 18 t1, .n (.sto 18 t2 t8)])
  .ret)))
theorem hc_l24_ownPolicy : compF Tryz.prog 9 Tryz.f19 = some (ic_l24_ownPolicy, [.c 2 true 18]) := by kernel_rfl

theorem fn_r14_Look : Tryz.prog.funcs[r14_Look]? = some Tryz.f20 := Tryz.func20
theorem nt_r14_Look : Tryz.f20.ntmps = 97 := Tryz.ntmps20
def ic_r14_Look : IC := (.seq (io [.o 2 (.box t0), .o 3 (.box t1), .o 4 (.alloc (.st (zc (zc (zc (zc (zc (zc (zc (zc (zc (zc (zc (zc (zc (zc (zc (zc (zc (zc (zc (zc (zc .nil)))))))))))))))))))))))])
  (.seq (io [el 12 true 18 t2, ec 13 5 [t12], em 11 t13, ex 14 0 t11, ex 15 1 t11, em 5 t14, em 6 t15])
  (.seq (.seq (io [em 16 t5, eb 17 .neq t16 (ci 0)])
  (.cond t17
  (.seq (io [.o 18 (.build (.st (zc (zc (zc (zc (zc (zc (zc (zc (zc (zc (zc (zc (zc (zc (zc (zc (zc (zc (zc (zc (zc .nil)))))))))))))))))))))) []), .n (.sto 21 t4 t18)])
  .ret)
  .skip))
  (.seq (io [ef 19 4 20 t3, el 20 true 15 t19, .o 7 (.alloc (.st (zc (zf (zc (zc (zc (zc (zc (zc (zc (zc (zc (zc (zc (zc (zc .nil))))))))))))))))), .n (.sto 15 t7 t20)])
  (.seq (.dops [ef 21 0 0 t7, el 22 false 1 t21, el 23 true 46 t3, ec 24 42 [t23], el 25 true 46 t3, ec 26 43 [t25], .o 27 (.build (.st (zc (zc (zc (zc (zc (zc (zc (zc (zc (zc (zc (zc (zc (zc (zc (zc (zc (zc (zc (zc (zc .nil)))))))))))))))))))))) [(0, 0, 1, t22), (1, 1, 1, t24), (3, 3, 1, t26)]), .o 8 (.alloc (.st (zc (zc (zc (zc (zc (zc (zc (zc (zc (zc (zc (zc (zc (zc (zc (zc (zc (zc (zc (zc (zc .nil))))))))))))))))))))))), .n (.sto 21 t8 t27)])
  (.seq (io [ef 28 1 1 t8, el 29 false 1 t28, ec 30 44 [t29], ef 31 2 2 t8, .n (.sto 1 t31 t30)])
  (.seq (io [el 32 true 46 t3, ec 33 45 [t32, (ci 3)], ef 34 4 4 t8, .n (.sto 1 t34 t33)])
  (.seq (io [el 35 true 46 t3, ec 36 45 [t35, (ci 2)], ef 37 5 5 t8, .n (.sto 1 t37 t36)])
  (.seq (io [el 38 true 46 t3, ec 39 45 [t38, (ci 1)], ef 40 6 6 t8, .n (.sto 1 t40 t39)])
  (.seq (io [el 41 true 46 t3, ec 42 45 [t41, (ci 4)], ef 43 7 7 t8, .n (.sto 1 t43 t42)])
  (.seq (io [el 44 true 46 t3, ec 45 45 [t44, (ci 5)], ef 46 8 8 t8, .n (.sto 1 t46 t45)])
  (.seq (io [ef 47 2 2 t7, el 48 false 1 t47, ef 49 9 9 t8, .n (.sto 1 t49 t48)])
  (.seq (io [ef 50 11 11 t7, el 51 false 1 t50, ef 52 10 10 t8, .n (.sto 1 t52 t51)])
  (.seq (io [ef 53 9 9 t7, el 54 false 1 t53, ef 55 11 11 t8, .n (.sto 1 t55 t54)])
  (.seq (io [ef 56 10 10 t7, el 57 false 1 t56, ef 58 12 12 t8, .n (.sto 1 t58 t57)])
  (.seq (io [ef 59 12 12 t7, el 60 false 1 t59, ef 61 13 13 t8, .n (.sto 1 t61 t60)])
  (.seq (io [ef 62 5 5 t7, el 63 false 1 t62, ef 64 14 14 t8, .n (.sto 1 t64 t63)])
  (.seq (io [ef 65 6 6 t7, el 66 false 1 t65, ef 67 15 15 t8, .n (.sto 1 t67 t66)])
  (.seq (io [ef 68 4 4 t7, el 69 false 1 t68, ef 70 16 16 t8, .n (.sto 1 t70 t69)])
  (.seq (.dops [ef 72 2 7 t3, el 73 false 1 t72, el 74 true 46 t3, ec 75 47 [t74], ec 76 46 [t73, t75], em 71 t76, ex 77 0 t71, ex 78 1 t71, em 9 t77, em 10 t78])
  (.seq (.seq (io [em 79 t10])
  (.cond t79
  (.ops [ef 80 2 7 t3, el 81 false 1 t80, em 82 t9, es 83 4 t81 t82, ef 84 0 0 t83, el 85 false 1 t84, ef 86 17 17 t8, .n (.sto 1 t86 t85)])
  .skip))
  (.seq (io [ef 87 14 14 t7, el 88 false 1 t87, ef 89 18 18 t8, .n (.sto 1 t89 t88)])
  (.seq (io [ef 90 10 44 t3, el 91 false 1 t90, ef 92 19 19 t8, .n (.sto 1 t92 t91)])
  (.seq (io [el 93 true 46 t3, ec 94 45 [t93, (ci 10)], ef 95 20 20 t8, .n (.sto 1 t95 t94)])
  (.seq (io [el 96 true 21 t8, .n (.sto 21 t4 t96)])
  .ret)))))))))))))))))))))))))
theorem hc_r14_Look : compF Tryz.prog 97 Tryz.f20 = some (ic_r14_Look, [.c 4 true 21]) := by kernel_rfl

theorem fn_r12_in : Tryz.prog.funcs[r12_in]? = some Tryz.f21 := Tryz.func21
theorem nt_r12_in : Tryz.f21.ntmps = 15 := Tryz.ntmps21
def ic_r12_in : IC := (.seq (io [em 6 cf])
  (.seq (io [em 7 t0, em 8 t1, eb 9 .geq t7 t8, em 10 t9, .og 11 10 true (.mv t0), .og 12 10 true (.mv t2), .og 13 10 true (.bin .leq t11 t12), .o 14 (.pick t10 t13 cf), em 6 t14])
  .ret))
theorem hc_r12_in : compF Tryz.prog 15 Tryz.f21 = some (ic_r12_in, [.t 6]) := by kernel_rfl

theorem fn_r12_holidays : Tryz.prog.funcs[r12_holidays]? = some Tryz.f22 := Tryz.func22
theorem nt_r12_holidays : Tryz.f22.ntmps = 41 := Tryz.ntmps22
def ic_r12_holidays : IC := (.seq (io [em 2 cf])
  (.seq (.seq (io [em 4 t0, .o 5 (.len t4), eb 6 .gtr t5 (ci 64)])
  (.cond t6
  (.seq (io [em 2 cf])
  .ret)
  .skip))
  (.seq (.seq (io [em 3 (ci 0)])
  (.block 0 (.loop (.seq (.seq (io [em 7 t3, em 8 t0, .o 9 (.len t8), eb 10 .lss t7 t9])
  (.cond t10
  .skip
  (.exit 0)))
  (.seq (.block 1 (.seq (.dops [em 13 t0, em 14 t3, es 15 1 t13 t14, el 16 false 1 t15, eb 17 .lss t16 (ci 1), em 18 t17, .og 19 18 false (.mv t0), .og 20 18 false (.mv t3), .og 21 18 false (.ixs 1 t19 t20), .og 22 18 false (.ld false 1 t21), .og 23 18 false (.bin .gtr t22 (ci 3652059)), .o 24 (.pick t18 ct t23), em 25 t24, .og 26 25 false (.mv t3), .og 27 25 false (.bin .gtr t26 (ci 0)), .og 28 25 false (.mv t27), .og 29 28 true (.mv t0), .og 30 28 true (.mv t3), .og 31 28 true (.ixs 1 t29 t30), .og 32 28 true (.ld false 1 t31), .og 33 28 true (.mv t0), .og 34 28 true (.mv t3), .og 35 28 true (.bin .sub t34 (ci 1)), .og 36 28 true (.ixs 1 t33 t35), .og 37 28 true (.ld false 1 t36), .og 38 28 true (.bin .leq t32 t37), .og 39 25 false (.pick t28 t38 cf), .o 40 (.pick t25 ct t39)])
  (.cond t40
  (.seq (io [em 2 cf])
  .ret)
  .skip)))
  (.ops [em 11 t3, eb 12 .add t11 (ci 1), em 3 t12]))))))
  (.seq (io [em 2 ct])
  .ret))))
theorem hc_r12_holidays : compF Tryz.prog 41 Tryz.f22 = some (ic_r12_holidays, [.t 2]) := by kernel_rfl

theorem fn_policy_rules : Tryz.prog.funcs[policy_rules]? = some Tryz.f23 := Tryz.func23
theorem nt_policy_rules : Tryz.f23.ntmps = 34 := Tryz.ntmps23
def ic_policy_rules : IC := (.seq (io [em 0 (.c (.slice none 0 0))])
  (.seq (io [ec 1 50 [(ci 1)], ec 2 48 [(.f 49), t1, (ci 3652059)], ec 3 50 [(ci 0)], ec 4 48 [(.f 51), t3, (ci 30)], ec 5 48 [(.f 52), (.f 53), (ci 365)], ec 6 50 [(ci 1)], ec 7 48 [(.f 54), t6, (ci 365)], ec 8 57 [(ci 0)], ec 9 55 [(.f 56), t8, (ci 10000)], ec 10 57 [(ci 0)], ec 11 55 [(.f 58), t10, (ci 1000000000)], ec 12 55 [(.f 59), (.f 60), (ci 1000000000)], ec 13 57 [(ci 0)], ec 14 55 [(.f 61), t13, (ci 1000000000)], ec 15 57 [(ci 0)], ec 16 55 [(.f 62), t15, (ci 1000000000)], ec 17 50 [(ci 0)], ec 18 48 [(.f 63), t17, (ci 8)], ec 19 50 [(ci 1)], ec 20 48 [(.f 64), t19, (ci 60)], ec 21 50 [(ci 0)], ec 22 48 [(.f 65), t21, (ci 4)], ec 23 50 [(ci 0)], ec 24 48 [(.f 66), t23, (ci 5)], ec 25 50 [(ci 0)], ec 26 48 [(.f 67), t25, (ci 3)], ec 27 50 [(ci 1)], ec 28 48 [(.f 68), t27, (ci 64)], ec 29 48 [(.f 69), (.f 70), (ci 64)], ec 30 50 [(ci 0)], ec 31 48 [(.f 71), t30, (ci 1000)], .o 32 (.build (.st (.cons (.val (.nilFunc)) .nil)) [(0, 0, 1, (.f 72))]), .o 33 (.bsl 1 77 (.st (.cons (.val (.nilFunc)) .nil)) [(0, 0, 1, t2), (1, 1, 1, t4), (2, 2, 1, t5), (3, 3, 1, t7), (4, 4, 1, t9), (5, 5, 1, t11), (6, 6, 1, t12), (7, 7, 1, t14), (8, 8, 1, t16), (9, 9, 1, t18), (10, 10, 1, t20), (11, 11, 1, t22), (12, 12, 1, t24), (13, 13, 1, t26), (14, 14, 1, t28), (15, 15, 1, t29), (16, 16, 1, t31), (17, 17, 1, t32)]), em 0 t33])
  .ret))
theorem hc_policy_rules : compF Tryz.prog 34 Tryz.f23 = some (ic_policy_rules, [.t 0]) := by kernel_rfl

theorem fn_loan_Look_c1 : Tryz.prog.funcs[loan_Look_c1]? = some Tryz.f24 := Tryz.func24
theorem nt_loan_Look_c1 : Tryz.f24.ntmps = 4 := Tryz.ntmps24
def ic_loan_Look_c1 : IC := (.seq (io [.o 1 (.dead), .o 2 (.dead)])
  (.cond t2
  (.ops [.o 3 (.build (.st (zc (zc (zc (zc (zc (zc (zc (zc (zc (zc (zc (zc (zc (zc (zc (zc (zc (zc (zc (zc (zc .nil)))))))))))))))))))))) []), .n (.sto 21 t0 t3)])
  .skip))
theorem hc_loan_Look_c1 : compF Tryz.prog 4 Tryz.f24 = some (ic_loan_Look_c1, []) := by kernel_rfl

theorem fn_loan_give : Tryz.prog.funcs[loan_give]? = some Tryz.f25 := Tryz.func25
theorem nt_loan_give : Tryz.f25.ntmps = 7 := Tryz.ntmps25
def ic_loan_give : IC := (.seq (io [em 2 t0, eb 3 .neq t2 (ci 0)])
  (.cond t3
  (.ops [em 4 t0, .o 5 (.build (.st (zc .nil)) [(0, 0, 1, t4)]), .o 6 (.dead), .n (.dead)])
  .skip))
theorem hc_loan_give : compF Tryz.prog 7 Tryz.f25 = some (ic_loan_give, []) := by kernel_rfl

theorem fn_loan_owed : Tryz.prog.funcs[loan_owed]? = some Tryz.f26 := Tryz.func26
theorem nt_loan_owed : Tryz.f26.ntmps = 10 := Tryz.ntmps26
def ic_loan_owed : IC := (.seq (io [.o 1 (.box t0), .o 2 (.alloc (.st (zc (zc (zc .nil)))))])
  (.seq (.dops [el 3 true 46 t1, ec 4 30 [t3, (ci 3)], el 5 true 46 t1, ec 6 30 [t5, (ci 2)], el 7 true 46 t1, ec 8 30 [t7, (ci 1)], .o 9 (.build (.st (zc (zc (zc .nil)))) [(0, 0, 1, t4), (1, 1, 1, t6), (2, 2, 1, t8)]), .n (.sto 3 t2 t9)])
  .ret))
theorem hc_loan_owed : compF Tryz.prog 10 Tryz.f26 = some (ic_loan_owed, [.c 2 true 3]) := by kernel_rfl

theorem fn_loan_position : Tryz.prog.funcs[loan_position]? = some Tryz.f27 := Tryz.func27
theorem nt_loan_position : Tryz.f27.ntmps = 14 := Tryz.ntmps27
def ic_loan_position : IC := (.seq (io [.o 1 (.box t0), .o 2 (.alloc (.st (zc (zc .nil))))])
  (.seq (io [el 4 true 46 t1, ec 5 26 [t4], .o 3 (.alloc (.st (zc (zc (zc .nil))))), .n (.sto 3 t3 t5)])
  (.seq (io [ef 6 7 37 t1, el 7 false 1 t6, ef 8 1 1 t3, el 9 false 1 t8, ef 10 2 2 t3, el 11 false 1 t10, eb 12 .add t9 t11, .o 13 (.build (.st (zc (zc .nil))) [(0, 0, 1, t7), (1, 1, 1, t12)]), .n (.sto 2 t2 t13)])
  .ret)))
theorem hc_loan_position : compF Tryz.prog 14 Tryz.f27 = some (ic_loan_position, [.c 2 true 2]) := by kernel_rfl

theorem fn_aging_Days : Tryz.prog.funcs[aging_Days]? = some Tryz.f28 := Tryz.func28
theorem nt_aging_Days : Tryz.f28.ntmps = 23 := Tryz.ntmps28
def ic_aging_Days : IC := (.seq (io [.o 4 (.box t1), em 6 (ci 0)])
  (.seq (io [em 10 t0, el 11 true 2 t4, ec 12 32 [t10, t11], em 9 t12, ex 13 0 t9, ex 14 1 t9, em 7 t13, em 8 t14])
  (.seq (.seq (io [em 15 t8, .o 16 (.un .not t15)])
  (.cond t16
  (.seq (io [em 6 (ci 0)])
  .ret)
  .skip))
  (.seq (io [em 17 t0, em 18 t7, es 19 4 t17 t18, el 20 true 4 t19, em 21 t2, ec 22 73 [t20, t21], em 6 t22])
  .ret))))
theorem hc_aging_Days : compF Tryz.prog 23 Tryz.f28 = some (ic_aging_Days, [.t 6]) := by kernel_rfl

theorem fn_aging_PastDue : Tryz.prog.funcs[aging_PastDue]? = some Tryz.f29 := Tryz.func29
theorem nt_aging_PastDue : Tryz.f29.ntmps = 66 := Tryz.ntmps29
def ic_aging_PastDue : IC := (.seq (io [.o 4 (.box t1), em 6 (ci 0)])
  (.seq (io [em 13 t0, el 14 true 2 t4, ec 15 32 [t13, t14], em 12 t15, ex 16 0 t12, ex 17 1 t12, em 7 t16, em 8 t17])
  (.seq (.seq (io [em 18 t8, .o 19 (.un .not t18), em 20 t19, .og 21 20 false (.mv t0), .og 22 20 false (.mv t7), .og 23 20 false (.ixs 4 t21 t22), .og 24 20 false (.fa 0 0 t23), .og 25 20 false (.ld false 1 t24), .og 26 20 false (.mv t2), .og 27 20 false (.bin .geq t25 t26), .o 28 (.pick t20 ct t27)])
  (.cond t28
  (.seq (io [em 6 (ci 0)])
  .ret)
  .skip))
  (.seq (.seq (io [em 29 t0, em 30 t0, .o 31 (.len t30), eb 32 .sub t31 (ci 1), es 33 4 t29 t32, ef 34 0 0 t33, el 35 false 1 t34, em 36 t2, eb 37 .lss t35 t36])
  (.cond t37
  (.seq (io [ef 38 1 1 t4, el 39 false 1 t38, em 6 t39])
  .ret)
  .skip))
  (.seq (io [ef 40 0 0 t4, el 41 false 1 t40, .o 42 (.mm true t41 (ci 0)), .o 43 (.un .neg t42), em 9 t43])
  (.seq (.seq (io [em 44 t0, .o 45 (.len t44), em 46 (ci 0)])
  (.block 0 (.loop (.seq (io [eb 47 .lss t46 t45])
  (.seq (.cond t47
  .skip
  (.exit 0))
  (.seq (.block 1 (.seq (io [es 48 4 t44 t46, el 49 true 4 t48, .o 11 (.alloc (.st (zc (zc (zc (zf .nil)))))), .n (.sto 4 t11 t49)])
  (.seq (.seq (io [ef 50 0 0 t11, el 51 false 1 t50, em 52 t2, eb 53 .geq t51 t52])
  (.cond t53
  (.exit 0)
  .skip))
  (.ops [em 54 t9, ef 55 1 1 t11, el 56 false 1 t55, ef 57 2 2 t11, el 58 false 1 t57, eb 59 .add t56 t58, eb 60 .add t54 t59, em 9 t60]))))
  (.ops [eb 61 .add t46 (ci 1), em 46 t61])))))))
  (.seq (io [em 62 t9, ef 63 1 1 t4, el 64 false 1 t63, .o 65 (.mm false t62 t64), em 6 t65])
  .ret)))))))
theorem hc_aging_PastDue : compF Tryz.prog 66 Tryz.f29 = some (ic_aging_PastDue, [.t 6]) := by kernel_rfl

theorem fn_loan_balance : Tryz.prog.funcs[loan_balance]? = some Tryz.f30 := Tryz.func30
theorem nt_loan_balance : Tryz.f30.ntmps = 17 := Tryz.ntmps30
def ic_loan_balance : IC := (.seq (io [.o 2 (.box t0), em 4 (ci 0)])
  (.seq (io [ef 8 3 8 t2, el 9 true 12 t8, em 10 t1, ec 11 74 [t9, t10], em 7 t11, ex 12 0 t7, ex 13 1 t7, em 5 t12, em 6 t13])
  (.seq (io [em 14 t6, ec 15 25 [t14]])
  (.seq (io [em 16 t5, em 4 t16])
  .ret))))
theorem hc_loan_balance : compF Tryz.prog 17 Tryz.f30 = some (ic_loan_balance, [.t 4]) := by kernel_rfl

theorem fn_aging_Bucket : Tryz.prog.funcs[aging_Bucket]? = some Tryz.f31 := Tryz.func31
theorem nt_aging_Bucket : Tryz.f31.ntmps = 15 := Tryz.ntmps31
def ic_aging_Bucket : IC := (.seq (io [em 2 (ci 0)])
  (.seq (.block 0 (.seq (io [em 4 t0, eb 5 .geq t4 (ci 90), em 3 t5])
  (.cond t3
  (.seq (io [em 2 (ci 4)])
  .ret)
  (.seq (io [em 7 t0, eb 8 .geq t7 (ci 60), em 6 t8])
  (.cond t6
  (.seq (io [em 2 (ci 3)])
  .ret)
  (.seq (io [em 10 t0, eb 11 .geq t10 (ci 30), em 9 t11])
  (.cond t9
  (.seq (io [em 2 (ci 2)])
  .ret)
  (.seq (io [em 13 t0, eb 14 .geq t13 (ci 1), em 12 t14])
  (.cond t12
  (.seq (io [em 2 (ci 1)])
  .ret)
  .skip)))))))))
  (.seq (io [em 2 (ci 0)])
  .ret)))
theorem hc_aging_Bucket : compF Tryz.prog 15 Tryz.f31 = some (ic_aging_Bucket, [.t 2]) := by kernel_rfl

theorem fn_aging_Oldest : Tryz.prog.funcs[aging_Oldest]? = some Tryz.f32 := Tryz.func32
theorem nt_aging_Oldest : Tryz.f32.ntmps = 18 := Tryz.ntmps32
def ic_aging_Oldest : IC := (.seq (io [.o 3 (.box t1), em 4 (ci 0), em 5 cf])
  (.seq (.seq (io [em 7 t0, ec 8 75 [t7], .o 9 (.un .not t8)])
  (.cond t9
  (.seq (io [em 4 (ci 0), em 5 cf])
  .ret)
  .skip))
  (.seq (io [em 10 t0, el 11 true 2 t3, ec 12 76 [t10, t11], em 6 t12])
  (.seq (.seq (io [em 13 t6, em 14 t0, .o 15 (.len t14), eb 16 .eql t13 t15])
  (.cond t16
  (.seq (io [em 4 (ci 0), em 5 cf])
  .ret)
  .skip))
  (.seq (io [em 17 t6, em 4 t17, em 5 ct])
  .ret)))))
theorem hc_aging_Oldest : compF Tryz.prog 18 Tryz.f32 = some (ic_aging_Oldest, [.t 4, .t 5]) := by kernel_rfl

theorem fn_internal_strconv_Itoa : Tryz.prog.funcs[internal_strconv_Itoa]? = some Tryz.f33 := Tryz.func33
theorem nt_internal_strconv_Itoa : Tryz.f33.ntmps = 5 := Tryz.ntmps33
def ic_internal_strconv_Itoa : IC := (.seq (io [em 2 (.c (.string ⟨#[]⟩))])
  (.seq (io [em 3 t0, ec 4 77 [t3, (ci 10)], em 2 t4])
  .ret))
theorem hc_internal_strconv_Itoa : compF Tryz.prog 5 Tryz.f33 = some (ic_internal_strconv_Itoa, [.t 2]) := by kernel_rfl

theorem fn_r15_place : Tryz.prog.funcs[r15_place]? = some Tryz.f34 := Tryz.func34
theorem nt_r15_place : Tryz.f34.ntmps = 22 := Tryz.ntmps34
def ic_r15_place : IC := (.seq (io [.o 2 (.box t0), em 4 (ci 0)])
  (.seq (.seq (io [em 5 (ci 0)])
  (.block 0 (.loop (.seq (.seq (io [em 6 t5, ef 7 1 1 t2, el 8 false 1 t7, .o 9 (.len t8), eb 10 .lss t6 t9])
  (.cond t10
  .skip
  (.exit 0)))
  (.seq (.block 1 (.seq (io [ef 13 1 1 t2, el 14 false 1 t13, em 15 t5, es 16 46 t14 t15, ef 17 0 0 t16, el 18 false 1 t17, em 19 t1, eb 20 .eql t18 t19])
  (.cond t20
  (.seq (io [em 21 t5, em 4 t21])
  .ret)
  .skip)))
  (.ops [em 11 t5, eb 12 .add t11 (ci 1), em 5 t12]))))))
  (.seq (io [em 4 (ci (-1))])
  .ret)))
theorem hc_r15_place : compF Tryz.prog 22 Tryz.f34 = some (ic_r15_place, [.t 4]) := by kernel_rfl

theorem fn_r14_Open : Tryz.prog.funcs[r14_Open]? = some Tryz.f35 := Tryz.func35
theorem nt_r14_Open : Tryz.f35.ntmps = 52 := Tryz.ntmps35
def ic_r14_Open : IC := (.seq (io [.o 3 (.box t0), .o 5 (.box t2), .o 6 (.alloc (.st (.cons (.st (zc (.cons (.st (zc (zc (zc (zc (zc (zc .nil))))))) (.cons zs (.cons (.st (.cons (.arr 12 1 fun _ => zi) .nil)) (.cons (.st (zc (zf (zc (zc (zc (zc (zc (zc (zc (zc (zc (zc (zc (zc (zc .nil)))))))))))))))) (zc (zc (zc (.cons (.st (zc (zc (zc (zc (zc .nil)))))) (zf (zc (zc .nil))))))))))))) (.cons (.st (zc (zc (zc (zc (zc .nil)))))) (.cons zs (zc .nil))))))])
  (.seq (io [el 10 true 18 t3, .o 11 (.build (.st (zc (.cons (.st (zc (zc (zc (zc (zc (zc .nil))))))) (.cons zs (.cons (.st (.cons (.arr 12 1 fun _ => zi) .nil)) (.cons (.st (zc (zf (zc (zc (zc (zc (zc (zc (zc (zc (zc (zc (zc (zc (zc .nil)))))))))))))))) (zc (zc (zc (.cons (.st (zc (zc (zc (zc (zc .nil)))))) (zf (zc (zc .nil))))))))))))) []), ec 12 78 [t10, t11], .o 7 (.alloc (.st (.cons (.st (zc (zc (zc (zc (zc (zc (zc (zc (zc (zc (zc (zc (zc (zc (zc (zc (zc (.cons zs .nil))))))))))))))))))) (.cons (.st (zc (.cons (.st (zc (zc (zc (zc (zc (zc .nil))))))) (.cons zs (.cons (.st (.cons (.arr 12 1 fun _ => zi) .nil)) (.cons (.st (zc (zf (zc (zc (zc (zc (zc (zc (zc (zc (zc (zc (zc (zc (zc .nil)))))))))))))))) (zc (zc (zc (.cons (.st (zc (zc (zc (zc (zc .nil)))))) (zf (zc (zc .nil))))))))))))) (.cons (.st (zc (zc (zc (zc (zc .nil)))))) (.cons zs (zc .nil))))))), .n (.sto 71 t7 t12)])
  (.seq (io [el 13 true 71 t7, em 14 t1, eb 15 .lss t14 (ci 1), em 16 t15, .og 17 16 false (.mv t1), .og 18 16 false (.bin .gtr t17 (ci 999999)), .o 19 (.pick t16 ct t18), ec 20 79 [t13, t19, (ci 2)], .n (.sto 71 t7 t20)])
  (.seq (.dops [el 21 true 71 t7, el 22 true 6 t5, ec 23 80 [t22], ec 24 79 [t21, t23, (ci 140)], .n (.sto 71 t7 t24)])
  (.seq (io [el 26 true 6 t5, ef 27 17 17 t3, el 28 false 1 t27, ec 29 81 [t26, t28], em 25 t29, ex 30 0 t25, ex 31 1 t25, em 8 t30, em 9 t31])
  (.seq (io [el 32 true 71 t7, em 33 t9, .o 34 (.un .not t33), ec 35 79 [t32, t34, (ci 141)], .n (.sto 71 t7 t35)])
  (.seq (.dops [em 36 t1, el 37 true 6 t5, em 38 t8, ec 39 82 [], ef 40 4 4 t5, el 41 false 1 t40, .o 42 (.build (.st (zc (.cons (.st (zc (zc (zc (zc (zc (zc .nil))))))) (.cons zs (.cons (.st (.cons (.arr 12 1 fun _ => zi) .nil)) (.cons (.st (zc (zf (zc (zc (zc (zc (zc (zc (zc (zc (zc (zc (zc (zc (zc .nil)))))))))))))))) (zc (zc (zc (.cons (.st (zc (zc (zc (zc (zc .nil)))))) (zf (zc (zc .nil))))))))))))) [(0, 0, 1, t36), (1, 1, 6, t37), (2, 7, 1, t38), (4, 20, 15, t39), (5, 35, 1, t41)]), ef 43 1 18 t7, .n (.sto 46 t43 t42)])
  (.seq (.dops [el 44 true 71 t7, ef 45 1 1 t5, el 46 false 1 t45, ec 47 84 [(.c (.slice none 0 0)), (ci 1), (ci 6), t46], ec 48 83 [t44, t47], .n (.sto 71 t7 t48)])
  (.seq (io [el 49 true 71 t7, .o 50 (.build (.st (zc (.cons (.st (zc (zc (zc (zc (zc (zc .nil))))))) (.cons zs (.cons (.st (.cons (.arr 12 1 fun _ => zi) .nil)) (.cons (.st (zc (zf (zc (zc (zc (zc (zc (zc (zc (zc (zc (zc (zc (zc (zc .nil)))))))))))))))) (zc (zc (zc (.cons (.st (zc (zc (zc (zc (zc .nil)))))) (zf (zc (zc .nil))))))))))))) []), ec 51 85 [t49, t50], .n (.sto 53 t6 t51)])
  .ret)))))))))
theorem hc_r14_Open : compF Tryz.prog 52 Tryz.f35 = some (ic_r14_Open, [.c 6 true 53]) := by kernel_rfl

theorem fn_r15_noticed : Tryz.prog.funcs[r15_noticed]? = some Tryz.f36 := Tryz.func36
theorem nt_r15_noticed : Tryz.f36.ntmps = 45 := Tryz.ntmps36
def ic_r15_noticed : IC := (.seq (io [.o 2 (.box t0), .o 4 (.alloc (.st (zc (.cons zs (.cons zs .nil)))))])
  (.seq (io [em 5 (.c (.slice none 0 0))])
  (.seq (.seq (io [em 6 (ci 0)])
  (.block 0 (.loop (.seq (.seq (io [em 9 t6, ef 10 2 2 t2, el 11 false 1 t10, .o 12 (.len t11), eb 13 .lss t9 t12])
  (.cond t13
  .skip
  (.exit 0)))
  (.seq (.block 1 (.ops [em 16 t5, ef 17 2 2 t2, el 18 false 1 t17, em 19 t6, es 20 6 t18 t19, el 21 true 6 t20, .o 22 (.bsl 6 131 (.st (zc (zc (zc (zc (zc (zf .nil))))))) [(0, 0, 6, t21)]), .o 23 (.app 6 48 131 t16 t22), em 5 t23]))
  (.ops [em 14 t6, eb 15 .add t14 (ci 1), em 6 t15]))))))
  (.seq (.seq (io [em 7 (ci 0)])
  (.block 2 (.loop (.seq (.seq (io [em 24 t7, em 25 t1, .o 26 (.len t25), eb 27 .lss t24 t26])
  (.cond t27
  .skip
  (.exit 2)))
  (.seq (.block 3 (.seq (io [em 30 t1, em 31 t7, es 32 6 t30 t31, el 33 true 6 t32, .o 8 (.alloc (.st (zc (zc (zc (zc (zc (zf .nil)))))))), .n (.sto 6 t8 t33)])
  (.seq (io [em 34 t5, .o 35 (.len t34), eb 36 .add t35 (ci 1), ef 37 0 0 t8, .n (.sto 1 t37 t36)])
  (.ops [em 38 t5, el 39 true 6 t8, .o 40 (.bsl 6 131 (.st (zc (zc (zc (zc (zc (zf .nil))))))) [(0, 0, 6, t39)]), .o 41 (.app 6 48 131 t38 t40), em 5 t41]))))
  (.ops [em 28 t7, eb 29 .add t28 (ci 1), em 7 t29]))))))
  (.seq (io [em 42 t5, ef 43 2 2 t2, .n (.sto 1 t43 t42)])
  (.seq (io [el 44 true 3 t2, .n (.sto 3 t4 t44)])
  .ret))))))
theorem hc_r15_noticed : compF Tryz.prog 45 Tryz.f36 = some (ic_r15_noticed, [.c 4 true 3]) := by kernel_rfl

theorem fn_r15_first : Tryz.prog.funcs[r15_first]? = some Tryz.f37 := Tryz.func37
theorem nt_r15_first : Tryz.f37.ntmps = 37 := Tryz.ntmps37
def ic_r15_first : IC := (.seq (io [.o 1 (.box t0), em 2 (.c (.slice none 0 0))])
  (.seq (io [em 3 (.c (.slice none 0 0))])
  (.seq (io [em 4 t3, ef 5 2 7 t1, el 6 false 1 t5, .o 7 (.len t6), .o 8 (.bsl 1 2 zi [(0, 0, 1, t7)]), .o 9 (.app 1 8 2 t4 t8), em 3 t9])
  (.seq (.seq (io [ef 10 2 7 t1, el 11 false 1 t10, .o 12 (.len t11), eb 13 .gtr t12 (ci 0)])
  (.cond t13
  (.seq (io [em 14 t3, ef 15 2 7 t1, el 16 false 1 t15, es 17 4 t16 (ci 0), ef 18 0 0 t17, el 19 false 1 t18, .o 20 (.bsl 1 2 zi [(0, 0, 1, t19)]), .o 21 (.app 1 8 2 t14 t20), em 3 t21])
  (.dops [em 22 t3, ef 23 2 7 t1, el 24 false 1 t23, es 25 4 t24 (ci 0), ef 26 1 1 t25, el 27 false 1 t26, ef 28 2 7 t1, el 29 false 1 t28, es 30 4 t29 (ci 0), ef 31 2 2 t30, el 32 false 1 t31, eb 33 .add t27 t32, .o 34 (.bsl 1 2 zi [(0, 0, 1, t33)]), .o 35 (.app 1 8 2 t22 t34), em 3 t35]))
  .skip))
  (.seq (io [em 36 t3, em 2 t36])
  .ret)))))
theorem hc_r15_first : compF Tryz.prog 37 Tryz.f37 = some (ic_r15_first, [.t 2]) := by kernel_rfl

theorem fn_r15_rolled : Tryz.prog.funcs[r15_rolled]? = some Tryz.f38 := Tryz.func38
theorem nt_r15_rolled : Tryz.f38.ntmps = 37 := Tryz.ntmps38
def ic_r15_rolled : IC := (.seq (io [.o 2 (.box t0), .o 3 (.box t1), .o 4 (.alloc (.st (zc (.cons zs (.cons zs .nil))))), em 5 (ci 0)])
  (.seq (.seq (io [em 6 (ci 0)])
  (.block 0 (.loop (.seq (.seq (io [em 8 t6, ef 9 1 1 t3, el 10 false 1 t9, .o 11 (.len t10), eb 12 .lss t8 t11])
  (.cond t12
  .skip
  (.exit 0)))
  (.seq (.block 1 (.seq (.dops [el 15 true 18 t2, ef 16 1 1 t3, el 17 false 1 t16, em 18 t6, es 19 46 t17 t18, el 20 true 46 t19, ec 21 86 [t15, t20], .o 7 (.alloc (.st (.cons (.st (zc (.cons (.st (zc (zc (zc (zc (zc (zc .nil))))))) (.cons zs (.cons (.st (.cons (.arr 12 1 fun _ => zi) .nil)) (.cons (.st (zc (zf (zc (zc (zc (zc (zc (zc (zc (zc (zc (zc (zc (zc (zc .nil)))))))))))))))) (zc (zc (zc (.cons (.st (zc (zc (zc (zc (zc .nil)))))) (zf (zc (zc .nil))))))))))))) (.cons (.st (zc (zc (zc (zc (zc .nil)))))) (.cons zs (zc .nil)))))), .n (.sto 53 t7 t21)])
  (.seq (.seq (io [ef 22 3 52 t7, el 23 false 1 t22, eb 24 .neq t23 (ci 0)])
  (.cond t24
  (.seq (.dopss [(el 25 true 3 t3, []), (ef 26 3 52 t7, []), (el 27 false 1 t26, [4]), (.n (.sto 3 t4 t25), []), (em 5 t27, [])])
  .ret)
  .skip))
  (.ops [el 28 true 3 t3, em 29 t6, el 30 true 53 t7, ec 31 40 [t28, t29, t30], .n (.sto 3 t3 t31)]))))
  (.ops [em 13 t6, eb 14 .add t13 (ci 1), em 6 t14]))))))
  (.seq (io [ef 32 0 0 t3, el 33 false 1 t32, eb 34 .add t33 (ci 1), ef 35 0 0 t3, .n (.sto 1 t35 t34)])
  (.seq (io [el 36 true 3 t3, .n (.sto 3 t4 t36), em 5 (ci 0)])
  .ret))))
theorem hc_r15_rolled : compF Tryz.prog 37 Tryz.f38 = some (ic_r15_rolled, [.c 4 true 3, .t 5]) := by kernel_rfl

theorem fn_r15_called : Tryz.prog.funcs[r15_called]? = some Tryz.f39 := Tryz.func39
theorem nt_r15_called : Tryz.f39.ntmps = 51 := Tryz.ntmps39
def ic_r15_called : IC := (.seq (io [.o 3 (.box t0), .o 4 (.box t1), .o 5 (.box t2), .o 6 (.alloc (.st (.cons (.st (zc (.cons (.st (zc (zc (zc (zc (zc (zc .nil))))))) (.cons zs (.cons (.st (.cons (.arr 12 1 fun _ => zi) .nil)) (.cons (.st (zc (zf (zc (zc (zc (zc (zc (zc (zc (zc (zc (zc (zc (zc (zc .nil)))))))))))))))) (zc (zc (zc (.cons (.st (zc (zc (zc (zc (zc .nil)))))) (zf (zc (zc .nil))))))))))))) (.cons (.st (zc (zc (zc (zc (zc .nil)))))) (.cons zs (zc .nil))))))])
  (.seq (.seq (io [ef 7 0 0 t5, el 8 false 1 t7])
  (.block 0 (.seq (io [eb 10 .eql t8 (ci 2), em 9 t10])
  (.cond t9
  (.seq (io [el 11 true 18 t3, el 12 true 46 t4, ef 13 2 2 t5, el 14 false 1 t13, ec 15 87 [t11, t12, t14], .n (.sto 53 t6 t15)])
  .ret)
  (.seq (io [eb 17 .eql t8 (ci 3), em 16 t17])
  (.cond t16
  (.seq (io [el 18 true 18 t3, el 19 true 46 t4, ec 20 88 [t18, t19], .n (.sto 53 t6 t20)])
  .ret)
  (.seq (io [eb 22 .eql t8 (ci 4), em 21 t22])
  (.cond t21
  (.seq (io [el 23 true 18 t3, el 24 true 46 t4, ef 25 2 2 t5, el 26 false 1 t25, ec 27 89 [t23, t24, t26], .n (.sto 53 t6 t27)])
  .ret)
  (.seq (io [eb 29 .eql t8 (ci 5), em 28 t29])
  (.cond t28
  (.seq (io [el 30 true 18 t3, el 31 true 46 t4, ef 32 2 2 t5, el 33 false 1 t32, ec 34 90 [t30, t31, t33], .n (.sto 53 t6 t34)])
  .ret)
  (.seq (io [eb 36 .eql t8 (ci 6), em 35 t36])
  (.cond t35
  (.seq (io [el 37 true 18 t3, el 38 true 46 t4, ef 39 2 2 t5, el 40 false 1 t39, ef 41 5 5 t5, el 42 false 1 t41, ec 43 91 [t37, t38, t40, t42], .n (.sto 53 t6 t43)])
  .ret)
  .skip))))))))))))
  (.seq (io [el 44 true 18 t3, el 45 true 46 t4, ef 46 4 4 t5, el 47 false 1 t46, ef 48 3 3 t5, el 49 false 1 t48, ec 50 92 [t44, t45, t47, t49], .n (.sto 53 t6 t50)])
  .ret)))
theorem hc_r15_called : compF Tryz.prog 51 Tryz.f39 = some (ic_r15_called, [.c 6 true 53]) := by kernel_rfl

theorem fn_r15_changed : Tryz.prog.funcs[r15_changed]? = some Tryz.f40 := Tryz.func40
theorem nt_r15_changed : Tryz.f40.ntmps = 38 := Tryz.ntmps40
def ic_r15_changed : IC := (.seq (io [.o 3 (.box t0), .o 5 (.box t2), .o 6 (.alloc (.st (zc (.cons zs (.cons zs .nil)))))])
  (.seq (io [em 7 (.c (.slice none 0 0))])
  (.seq (.seq (io [em 8 (ci 0)])
  (.block 0 (.loop (.seq (.seq (io [em 9 t8, ef 10 1 1 t3, el 11 false 1 t10, .o 12 (.len t11), eb 13 .lss t9 t12])
  (.cond t13
  .skip
  (.exit 0)))
  (.seq (.block 1 (.seq (io [em 16 t8, em 17 t1, eb 18 .eql t16 t17])
  (.cond t18
  (.ops [em 19 t7, ef 20 0 0 t5, el 21 true 46 t20, .o 22 (.bsl 46 41 (.st (zc (.cons (.st (zc (zc (zc (zc (zc (zc .nil))))))) (.cons zs (.cons (.st (.cons (.arr 12 1 fun _ => zi) .nil)) (.cons (.st (zc (zf (zc (zc (zc (zc (zc (zc (zc (zc (zc (zc (zc (zc (zc .nil)))))))))))))))) (zc (zc (zc (.cons (.st (zc (zc (zc (zc (zc .nil)))))) (zf (zc (zc .nil))))))))))))) [(0, 0, 46, t21)]), .o 23 (.app 46 384 41 t19 t22), em 7 t23])
  (.ops [em 24 t7, ef 25 1 1 t3, el 26 false 1 t25, em 27 t8, es 28 46 t26 t27, el 29 true 46 t28, .o 30 (.bsl 46 41 (.st (zc (.cons (.st (zc (zc (zc (zc (zc (zc .nil))))))) (.cons zs (.cons (.st (.cons (.arr 12 1 fun _ => zi) .nil)) (.cons (.st (zc (zf (zc (zc (zc (zc (zc (zc (zc (zc (zc (zc (zc (zc (zc .nil)))))))))))))))) (zc (zc (zc (.cons (.st (zc (zc (zc (zc (zc .nil)))))) (zf (zc (zc .nil))))))))))))) [(0, 0, 46, t29)]), .o 31 (.app 46 384 41 t24 t30), em 7 t31]))))
  (.ops [em 14 t8, eb 15 .add t14 (ci 1), em 8 t15]))))))
  (.seq (io [em 32 t7, ef 33 1 1 t3, .n (.sto 1 t33 t32)])
  (.seq (io [el 34 true 3 t3, ef 35 2 51 t5, el 36 false 1 t35, ec 37 36 [t34, t36], .n (.sto 3 t6 t37)])
  .ret)))))
theorem hc_r15_changed : compF Tryz.prog 38 Tryz.f40 = some (ic_r15_changed, [.c 6 true 3]) := by kernel_rfl

theorem fn_r15_numbers : Tryz.prog.funcs[r15_numbers]? = some Tryz.f41 := Tryz.func41
theorem nt_r15_numbers : Tryz.f41.ntmps = 105 := Tryz.ntmps41
def ic_r15_numbers : IC := (.seq (io [.o 2 (.box t0), .o 3 (.box t1), em 4 (.c (.slice none 0 0))])
  (.seq (io [ef 13 0 0 t3, el 14 true 46 t13, .o 5 (.alloc (.st (zc (.cons (.st (zc (zc (zc (zc (zc (zc .nil))))))) (.cons zs (.cons (.st (.cons (.arr 12 1 fun _ => zi) .nil)) (.cons (.st (zc (zf (zc (zc (zc (zc (zc (zc (zc (zc (zc (zc (zc (zc (zc .nil)))))))))))))))) (zc (zc (zc (.cons (.st (zc (zc (zc (zc (zc .nil)))))) (zf (zc (zc .nil)))))))))))))), .n (.sto 46 t5 t14)])
  (.seq (io [ef 15 1 46 t3, el 16 true 5 t15, .o 6 (.alloc (.st (zc (zc (zc (zc (zc .nil))))))), .n (.sto 5 t6 t16)])
  (.seq (io [ef 17 4 20 t5, ef 18 0 0 t17, el 19 false 1 t18, em 7 t19])
  (.seq (io [em 8 (.c (.slice none 0 0))])
  (.seq (.seq (io [ef 20 0 0 t2, el 21 false 1 t20])
  (.block 0 (.seq (io [eb 33 .eql t21 (ci 2), em 32 t33])
  (.cond t32
  (.ops [em 34 t8, ef 35 0 0 t6, el 36 false 1 t35, ef 37 1 1 t6, el 38 false 1 t37, ef 39 2 2 t6, el 40 false 1 t39, ef 41 3 3 t6, el 42 false 1 t41, ef 43 4 4 t6, el 44 false 1 t43, em 45 t7, .o 46 (.bsl 1 2 zi [(0, 0, 1, t36), (1, 1, 1, t38), (2, 2, 1, t40), (3, 3, 1, t42), (4, 4, 1, t44), (5, 5, 1, t45)]), .o 47 (.app 1 8 2 t34 t46), em 8 t47])
  (.seq (io [eb 49 .eql t21 (ci 3), em 48 t49])
  (.cond t48
  (.ops [em 50 t8, ef 51 0 0 t6, el 52 false 1 t51, ef 53 1 1 t6, el 54 false 1 t53, eb 55 .add t52 t54, ef 56 2 2 t6, el 57 false 1 t56, eb 58 .add t55 t57, ef 59 3 3 t6, el 60 false 1 t59, eb 61 .add t58 t60, ef 62 4 4 t6, el 63 false 1 t62, eb 64 .add t61 t63, em 65 t7, .o 66 (.bsl 1 2 zi [(0, 0, 1, t64), (1, 1, 1, t65)]), .o 67 (.app 1 8 2 t50 t66), em 8 t67])
  (.seq (io [eb 69 .eql t21 (ci 4), em 68 t69])
  (.cond t68
  (.seq (io [ef 71 3 8 t5, el 72 true 12 t71, ec 73 93 [t72, (ci 4)], em 70 t73, ex 74 0 t70, ex 75 1 t70, em 9 t74, em 10 t75])
  (.ops [em 76 t8, em 77 t9, .o 78 (.bsl 1 2 zi [(0, 0, 1, t77)]), .o 79 (.app 1 8 2 t76 t78), em 8 t79]))
  (.seq (io [eb 81 .eql t21 (ci 5), em 80 t81])
  (.cond t80
  (.seq (io [ef 83 3 8 t5, el 84 true 12 t83, ec 85 93 [t84, (ci 3)], em 82 t85, ex 86 0 t82, ex 87 1 t82, em 11 t86, em 12 t87])
  (.ops [em 88 t8, em 89 t11, em 90 t7, .o 91 (.bsl 1 2 zi [(0, 0, 1, t89), (1, 1, 1, t90)]), .o 92 (.app 1 8 2 t88 t91), em 8 t92]))
  (.seq (io [eb 94 .eql t21 (ci 6), em 93 t94])
  (.cond t93
  (.ops [em 95 t8, ef 96 4 20 t5, ef 97 6 6 t96, el 98 false 1 t97, ef 99 4 20 t5, ef 100 4 4 t99, el 101 false 1 t100, .o 102 (.bsl 1 2 zi [(0, 0, 1, t98), (1, 1, 1, t101)]), .o 103 (.app 1 8 2 t95 t102), em 8 t103])
  (.seq (io [em 22 t8, ef 23 1 1 t5, ef 24 1 1 t23, el 25 false 1 t24, .o 26 (.bsl 1 2 zi [(0, 0, 1, t25)]), .o 27 (.app 1 8 2 t22 t26), em 8 t27])
  (.ops [em 28 t8, el 29 true 46 t5, ec 30 37 [t29], .o 31 (.app 1 8 2 t28 t30), em 8 t31]))))))))))))))
  (.seq (io [em 104 t8, em 4 t104])
  .ret)))))))
theorem hc_r15_numbers : compF Tryz.prog 105 Tryz.f41 = some (ic_r15_numbers, [.t 4]) := by kernel_rfl

theorem fn_r14_days : Tryz.prog.funcs[r14_days]? = some Tryz.f42 := Tryz.func42
theorem nt_r14_days : Tryz.f42.ntmps = 10 := Tryz.ntmps42
def ic_r14_days : IC := (.seq (io [.o 1 (.box t0), em 2 (ci 0)])
  (.seq (.dops [ef 3 2 7 t1, el 4 false 1 t3, el 5 true 46 t1, ec 6 47 [t5], ef 7 5 35 t1, el 8 false 1 t7, ec 9 94 [t4, t6, t8], em 2 t9])
  .ret))
theorem hc_r14_days : compF Tryz.prog 10 Tryz.f42 = some (ic_r14_days, [.t 2]) := by kernel_rfl

theorem fn_r14_pastDue : Tryz.prog.funcs[r14_pastDue]? = some Tryz.f43 := Tryz.func43
theorem nt_r14_pastDue : Tryz.f43.ntmps = 10 := Tryz.ntmps43
def ic_r14_pastDue : IC := (.seq (io [.o 1 (.box t0), em 2 (ci 0)])
  (.seq (.dops [ef 3 2 7 t1, el 4 false 1 t3, el 5 true 46 t1, ec 6 47 [t5], ef 7 5 35 t1, el 8 false 1 t7, ec 9 95 [t4, t6, t8], em 2 t9])
  .ret))
theorem hc_r14_pastDue : compF Tryz.prog 10 Tryz.f43 = some (ic_r14_pastDue, [.t 2]) := by kernel_rfl

theorem fn_r10_Bucket : Tryz.prog.funcs[r10_Bucket]? = some Tryz.f44 := Tryz.func44
theorem nt_r10_Bucket : Tryz.f44.ntmps = 17 := Tryz.ntmps44
def ic_r10_Bucket : IC := (.seq (io [em 2 (ci 0)])
  (.seq (io [em 3 (ci 0)])
  (.seq (.seq (io [.o 6 (.build (.arr 4 1 fun _ => zi) [(0, 0, 1, (ci 1)), (1, 1, 1, (ci 30)), (2, 2, 1, (ci 60)), (3, 3, 1, (ci 90))]), em 7 (ci 0)])
  (.block 0 (.loop (.seq (io [eb 8 .lss t7 (ci 4)])
  (.seq (.cond t8
  .skip
  (.exit 0))
  (.seq (.block 1 (.seq (io [.o 9 (.ix false 4 1 t6 t7), em 5 t9])
  (.seq (io [em 10 t0, em 11 t5, eb 12 .geq t10 t11])
  (.cond t12
  (.ops [em 13 t3, eb 14 .add t13 (ci 1), em 3 t14])
  .skip))))
  (.ops [eb 15 .add t7 (ci 1), em 7 t15])))))))
  (.seq (io [em 16 t3, em 2 t16])
  .ret))))
theorem hc_r10_Bucket : compF Tryz.prog 17 Tryz.f44 = some (ic_r10_Bucket, [.t 2]) := by kernel_rfl

theorem fn_r14_of : Tryz.prog.funcs[r14_of]? = some Tryz.f45 := Tryz.func45
theorem nt_r14_of : Tryz.f45.ntmps = 15 := Tryz.ntmps45
def ic_r14_of : IC := (.seq (io [.o 2 (.box t0), em 4 (ci 0)])
  (.seq (io [ef 8 3 8 t2, el 9 true 12 t8, em 10 t1, ec 11 93 [t9, t10], em 7 t11, ex 12 0 t7, ex 13 1 t7, em 5 t12, em 6 t13])
  (.seq (io [em 14 t5, em 4 t14])
  .ret)))
theorem hc_r14_of : compF Tryz.prog 15 Tryz.f45 = some (ic_r14_of, [.t 4]) := by kernel_rfl

theorem fn_r10_Oldest : Tryz.prog.funcs[r10_Oldest]? = some Tryz.f46 := Tryz.func46
theorem nt_r10_Oldest : Tryz.f46.ntmps = 18 := Tryz.ntmps46
def ic_r10_Oldest : IC := (.seq (io [.o 3 (.box t1), em 4 (ci 0), em 5 cf])
  (.seq (io [em 8 t0, ec 9 96 [t8], em 6 t9])
  (.seq (io [em 10 t6, el 11 true 2 t3, ec 12 97 [t10, t11], em 7 t12])
  (.seq (.seq (io [em 13 t7, em 14 t6, .o 15 (.len t14), eb 16 .geq t13 t15])
  (.cond t16
  (.seq (io [em 4 (ci 0), em 5 cf])
  .ret)
  .skip))
  (.seq (io [em 17 t7, em 4 t17, em 5 ct])
  .ret)))))
theorem hc_r10_Oldest : compF Tryz.prog 18 Tryz.f46 = some (ic_r10_Oldest, [.t 4, .t 5]) := by kernel_rfl

theorem fn_r14_Position : Tryz.prog.funcs[r14_Position]? = some Tryz.f47 := Tryz.func47
theorem nt_r14_Position : Tryz.f47.ntmps = 11 := Tryz.ntmps47
def ic_r14_Position : IC := (.seq (io [.o 1 (.box t0), .o 2 (.alloc (.st (zc (zc .nil))))])
  (.seq (.dops [ef 3 7 37 t1, el 4 false 1 t3, el 5 true 46 t1, ec 6 45 [t5, (ci 2)], el 7 true 46 t1, ec 8 45 [t7, (ci 1)], eb 9 .add t6 t8, .o 10 (.build (.st (zc (zc .nil))) [(0, 0, 1, t4), (1, 1, 1, t9)]), .n (.sto 2 t2 t10)])
  .ret))
theorem hc_r14_Position : compF Tryz.prog 11 Tryz.f47 = some (ic_r14_Position, [.c 2 true 2]) := by kernel_rfl

theorem fn_arrears_policy_between_int_ : Tryz.prog.funcs[arrears_policy_between_int_]? = some Tryz.f48 := Tryz.func48
theorem nt_arrears_policy_between_int_ : Tryz.f48.ntmps = 9 := Tryz.ntmps48
def ic_arrears_policy_between_int_ : IC := (.seq (io [.o 3 (.box t0), .o 4 (.box t1), .o 5 (.box t2), .o 6 (.alloc (.st (.cons (.val (.nilFunc)) .nil)))])
  (.seq (io [.o 7 (.mkf (.func 98) [] [t3, t4, t5]), .o 8 (.build (.st (.cons (.val (.nilFunc)) .nil)) [(0, 0, 1, t7)]), .n (.sto 1 t6 t8)])
  .ret))
theorem hc_arrears_policy_between_int_ : compF Tryz.prog 9 Tryz.f48 = some (ic_arrears_policy_between_int_, [.c 6 true 1]) := by kernel_rfl

theorem fn_policy_rules_c1 : Tryz.prog.funcs[policy_rules_c1]? = some Tryz.f49 := Tryz.func49
theorem nt_policy_rules_c1 : Tryz.f49.ntmps = 5 := Tryz.ntmps49
def ic_policy_rules_c1 : IC := (.seq (io [.o 1 (.box t0), em 2 (ci 0)])
  (.seq (io [ef 3 0 0 t1, el 4 false 1 t3, em 2 t4])
  .ret))
theorem hc_policy_rules_c1 : compF Tryz.prog 5 Tryz.f49 = some (ic_policy_rules_c1, [.t 2]) := by kernel_rfl

theorem fn_arrears_policy_from_int_ : Tryz.prog.funcs[arrears_policy_from_int_]? = some Tryz.f50 := Tryz.func50
theorem nt_arrears_policy_from_int_ : Tryz.f50.ntmps = 4 := Tryz.ntmps50
def ic_arrears_policy_from_int_ : IC := (.seq (io [.o 1 (.box t0), em 2 (.c (.nilFunc))])
  (.seq (io [.o 3 (.mkf (.func 99) [] [t1]), em 2 t3])
  .ret))
theorem hc_arrears_policy_from_int_ : compF Tryz.prog 4 Tryz.f50 = some (ic_arrears_policy_from_int_, [.t 2]) := by kernel_rfl

theorem fn_policy_rules_c2 : Tryz.prog.funcs[policy_rules_c2]? = some Tryz.f51 := Tryz.func51
theorem nt_policy_rules_c2 : Tryz.f51.ntmps = 5 := Tryz.ntmps51
def ic_policy_rules_c2 : IC := (.seq (io [.o 1 (.box t0), em 2 (ci 0)])
  (.seq (io [ef 3 1 1 t1, el 4 false 1 t3, em 2 t4])
  .ret))
theorem hc_policy_rules_c2 : compF Tryz.prog 5 Tryz.f51 = some (ic_policy_rules_c2, [.t 2]) := by kernel_rfl

theorem fn_policy_rules_c3 : Tryz.prog.funcs[policy_rules_c3]? = some Tryz.f52 := Tryz.func52
theorem nt_policy_rules_c3 : Tryz.f52.ntmps = 5 := Tryz.ntmps52
def ic_policy_rules_c3 : IC := (.seq (io [.o 1 (.box t0), em 2 (ci 0)])
  (.seq (io [ef 3 2 2 t1, el 4 false 1 t3, em 2 t4])
  .ret))
theorem hc_policy_rules_c3 : compF Tryz.prog 5 Tryz.f52 = some (ic_policy_rules_c3, [.t 2]) := by kernel_rfl

theorem fn_policy_rules_c4 : Tryz.prog.funcs[policy_rules_c4]? = some Tryz.f53 := Tryz.func53
theorem nt_policy_rules_c4 : Tryz.f53.ntmps = 6 := Tryz.ntmps53
def ic_policy_rules_c4 : IC := (.seq (io [.o 1 (.box t0), em 2 (ci 0)])
  (.seq (io [ef 3 1 1 t1, el 4 false 1 t3, eb 5 .add t4 (ci 1), em 2 t5])
  .ret))
theorem hc_policy_rules_c4 : compF Tryz.prog 6 Tryz.f53 = some (ic_policy_rules_c4, [.t 2]) := by kernel_rfl

theorem fn_policy_rules_c5 : Tryz.prog.funcs[policy_rules_c5]? = some Tryz.f54 := Tryz.func54
theorem nt_policy_rules_c5 : Tryz.f54.ntmps = 5 := Tryz.ntmps54
def ic_policy_rules_c5 : IC := (.seq (io [.o 1 (.box t0), em 2 (ci 0)])
  (.seq (io [ef 3 3 3 t1, el 4 false 1 t3, em 2 t4])
  .ret))
theorem hc_policy_rules_c5 : compF Tryz.prog 5 Tryz.f54 = some (ic_policy_rules_c5, [.t 2]) := by kernel_rfl

theorem fn_arrears_policy_between_int64_ : Tryz.prog.funcs[arrears_policy_between_int64_]? = some Tryz.f55 := Tryz.func55
theorem nt_arrears_policy_between_int64_ : Tryz.f55.ntmps = 9 := Tryz.ntmps55
def ic_arrears_policy_between_int64_ : IC := (.seq (io [.o 3 (.box t0), .o 4 (.box t1), .o 5 (.box t2), .o 6 (.alloc (.st (.cons (.val (.nilFunc)) .nil)))])
  (.seq (io [.o 7 (.mkf (.func 100) [] [t3, t4, t5]), .o 8 (.build (.st (.cons (.val (.nilFunc)) .nil)) [(0, 0, 1, t7)]), .n (.sto 1 t6 t8)])
  .ret))
theorem hc_arrears_policy_between_int64_ : compF Tryz.prog 9 Tryz.f55 = some (ic_arrears_policy_between_int64_, [.c 6 true 1]) := by kernel_rfl

theorem fn_policy_rules_c6 : Tryz.prog.funcs[policy_rules_c6]? = some Tryz.f56 := Tryz.func56
theorem nt_policy_rules_c6 : Tryz.f56.ntmps = 5 := Tryz.ntmps56
def ic_policy_rules_c6 : IC := (.seq (io [.o 1 (.box t0), em 2 (ci 0)])
  (.seq (io [ef 3 4 4 t1, el 4 false 1 t3, em 2 t4])
  .ret))
theorem hc_policy_rules_c6 : compF Tryz.prog 5 Tryz.f56 = some (ic_policy_rules_c6, [.t 2]) := by kernel_rfl

theorem fn_arrears_policy_from_int64_ : Tryz.prog.funcs[arrears_policy_from_int64_]? = some Tryz.f57 := Tryz.func57
theorem nt_arrears_policy_from_int64_ : Tryz.f57.ntmps = 4 := Tryz.ntmps57
def ic_arrears_policy_from_int64_ : IC := (.seq (io [.o 1 (.box t0), em 2 (.c (.nilFunc))])
  (.seq (io [.o 3 (.mkf (.func 101) [] [t1]), em 2 t3])
  .ret))
theorem hc_arrears_policy_from_int64_ : compF Tryz.prog 4 Tryz.f57 = some (ic_arrears_policy_from_int64_, [.t 2]) := by kernel_rfl

theorem fn_policy_rules_c7 : Tryz.prog.funcs[policy_rules_c7]? = some Tryz.f58 := Tryz.func58
theorem nt_policy_rules_c7 : Tryz.f58.ntmps = 5 := Tryz.ntmps58
def ic_policy_rules_c7 : IC := (.seq (io [.o 1 (.box t0), em 2 (ci 0)])
  (.seq (io [ef 3 5 5 t1, el 4 false 1 t3, em 2 t4])
  .ret))
theorem hc_policy_rules_c7 : compF Tryz.prog 5 Tryz.f58 = some (ic_policy_rules_c7, [.t 2]) := by kernel_rfl

theorem fn_policy_rules_c8 : Tryz.prog.funcs[policy_rules_c8]? = some Tryz.f59 := Tryz.func59
theorem nt_policy_rules_c8 : Tryz.f59.ntmps = 5 := Tryz.ntmps59
def ic_policy_rules_c8 : IC := (.seq (io [.o 1 (.box t0), em 2 (ci 0)])
  (.seq (io [ef 3 6 6 t1, el 4 false 1 t3, em 2 t4])
  .ret))
theorem hc_policy_rules_c8 : compF Tryz.prog 5 Tryz.f59 = some (ic_policy_rules_c8, [.t 2]) := by kernel_rfl

theorem fn_policy_rules_c9 : Tryz.prog.funcs[policy_rules_c9]? = some Tryz.f60 := Tryz.func60
theorem nt_policy_rules_c9 : Tryz.f60.ntmps = 5 := Tryz.ntmps60
def ic_policy_rules_c9 : IC := (.seq (io [.o 1 (.box t0), em 2 (ci 0)])
  (.seq (io [ef 3 5 5 t1, el 4 false 1 t3, em 2 t4])
  .ret))
theorem hc_policy_rules_c9 : compF Tryz.prog 5 Tryz.f60 = some (ic_policy_rules_c9, [.t 2]) := by kernel_rfl

theorem fn_policy_rules_c10 : Tryz.prog.funcs[policy_rules_c10]? = some Tryz.f61 := Tryz.func61
theorem nt_policy_rules_c10 : Tryz.f61.ntmps = 5 := Tryz.ntmps61
def ic_policy_rules_c10 : IC := (.seq (io [.o 1 (.box t0), em 2 (ci 0)])
  (.seq (io [ef 3 7 7 t1, el 4 false 1 t3, em 2 t4])
  .ret))
theorem hc_policy_rules_c10 : compF Tryz.prog 5 Tryz.f61 = some (ic_policy_rules_c10, [.t 2]) := by kernel_rfl

theorem fn_policy_rules_c11 : Tryz.prog.funcs[policy_rules_c11]? = some Tryz.f62 := Tryz.func62
theorem nt_policy_rules_c11 : Tryz.f62.ntmps = 5 := Tryz.ntmps62
def ic_policy_rules_c11 : IC := (.seq (io [.o 1 (.box t0), em 2 (ci 0)])
  (.seq (io [ef 3 8 8 t1, el 4 false 1 t3, em 2 t4])
  .ret))
theorem hc_policy_rules_c11 : compF Tryz.prog 5 Tryz.f62 = some (ic_policy_rules_c11, [.t 2]) := by kernel_rfl

theorem fn_policy_rules_c12 : Tryz.prog.funcs[policy_rules_c12]? = some Tryz.f63 := Tryz.func63
theorem nt_policy_rules_c12 : Tryz.f63.ntmps = 5 := Tryz.ntmps63
def ic_policy_rules_c12 : IC := (.seq (io [.o 1 (.box t0), em 2 (ci 0)])
  (.seq (io [ef 3 9 9 t1, el 4 false 1 t3, em 2 t4])
  .ret))
theorem hc_policy_rules_c12 : compF Tryz.prog 5 Tryz.f63 = some (ic_policy_rules_c12, [.t 2]) := by kernel_rfl

theorem fn_policy_rules_c13 : Tryz.prog.funcs[policy_rules_c13]? = some Tryz.f64 := Tryz.func64
theorem nt_policy_rules_c13 : Tryz.f64.ntmps = 5 := Tryz.ntmps64
def ic_policy_rules_c13 : IC := (.seq (io [.o 1 (.box t0), em 2 (ci 0)])
  (.seq (io [ef 3 10 10 t1, el 4 false 1 t3, em 2 t4])
  .ret))
theorem hc_policy_rules_c13 : compF Tryz.prog 5 Tryz.f64 = some (ic_policy_rules_c13, [.t 2]) := by kernel_rfl

theorem fn_policy_rules_c14 : Tryz.prog.funcs[policy_rules_c14]? = some Tryz.f65 := Tryz.func65
theorem nt_policy_rules_c14 : Tryz.f65.ntmps = 5 := Tryz.ntmps65
def ic_policy_rules_c14 : IC := (.seq (io [.o 1 (.box t0), em 2 (ci 0)])
  (.seq (io [ef 3 11 11 t1, el 4 false 1 t3, em 2 t4])
  .ret))
theorem hc_policy_rules_c14 : compF Tryz.prog 5 Tryz.f65 = some (ic_policy_rules_c14, [.t 2]) := by kernel_rfl

theorem fn_policy_rules_c15 : Tryz.prog.funcs[policy_rules_c15]? = some Tryz.f66 := Tryz.func66
theorem nt_policy_rules_c15 : Tryz.f66.ntmps = 5 := Tryz.ntmps66
def ic_policy_rules_c15 : IC := (.seq (io [.o 1 (.box t0), em 2 (ci 0)])
  (.seq (io [ef 3 12 12 t1, el 4 false 1 t3, em 2 t4])
  .ret))
theorem hc_policy_rules_c15 : compF Tryz.prog 5 Tryz.f66 = some (ic_policy_rules_c15, [.t 2]) := by kernel_rfl

theorem fn_policy_rules_c16 : Tryz.prog.funcs[policy_rules_c16]? = some Tryz.f67 := Tryz.func67
theorem nt_policy_rules_c16 : Tryz.f67.ntmps = 5 := Tryz.ntmps67
def ic_policy_rules_c16 : IC := (.seq (io [.o 1 (.box t0), em 2 (ci 0)])
  (.seq (io [ef 3 13 13 t1, el 4 false 1 t3, em 2 t4])
  .ret))
theorem hc_policy_rules_c16 : compF Tryz.prog 5 Tryz.f67 = some (ic_policy_rules_c16, [.t 2]) := by kernel_rfl

theorem fn_policy_rules_c17 : Tryz.prog.funcs[policy_rules_c17]? = some Tryz.f68 := Tryz.func68
theorem nt_policy_rules_c17 : Tryz.f68.ntmps = 5 := Tryz.ntmps68
def ic_policy_rules_c17 : IC := (.seq (io [.o 1 (.box t0), em 2 (ci 0)])
  (.seq (io [ef 3 14 14 t1, el 4 false 1 t3, em 2 t4])
  .ret))
theorem hc_policy_rules_c17 : compF Tryz.prog 5 Tryz.f68 = some (ic_policy_rules_c17, [.t 2]) := by kernel_rfl

theorem fn_policy_rules_c18 : Tryz.prog.funcs[policy_rules_c18]? = some Tryz.f69 := Tryz.func69
theorem nt_policy_rules_c18 : Tryz.f69.ntmps = 5 := Tryz.ntmps69
def ic_policy_rules_c18 : IC := (.seq (io [.o 1 (.box t0), em 2 (ci 0)])
  (.seq (io [ef 3 15 15 t1, el 4 false 1 t3, em 2 t4])
  .ret))
theorem hc_policy_rules_c18 : compF Tryz.prog 5 Tryz.f69 = some (ic_policy_rules_c18, [.t 2]) := by kernel_rfl

theorem fn_policy_rules_c19 : Tryz.prog.funcs[policy_rules_c19]? = some Tryz.f70 := Tryz.func70
theorem nt_policy_rules_c19 : Tryz.f70.ntmps = 5 := Tryz.ntmps70
def ic_policy_rules_c19 : IC := (.seq (io [.o 1 (.box t0), em 2 (ci 0)])
  (.seq (io [ef 3 14 14 t1, el 4 false 1 t3, em 2 t4])
  .ret))
theorem hc_policy_rules_c19 : compF Tryz.prog 5 Tryz.f70 = some (ic_policy_rules_c19, [.t 2]) := by kernel_rfl

theorem fn_policy_rules_c20 : Tryz.prog.funcs[policy_rules_c20]? = some Tryz.f71 := Tryz.func71
theorem nt_policy_rules_c20 : Tryz.f71.ntmps = 5 := Tryz.ntmps71
def ic_policy_rules_c20 : IC := (.seq (io [.o 1 (.box t0), em 2 (ci 0)])
  (.seq (io [ef 3 16 16 t1, el 4 false 1 t3, em 2 t4])
  .ret))
theorem hc_policy_rules_c20 : compF Tryz.prog 5 Tryz.f71 = some (ic_policy_rules_c20, [.t 2]) := by kernel_rfl

theorem fn_policy_days : Tryz.prog.funcs[policy_days]? = some Tryz.f72 := Tryz.func72
theorem nt_policy_days : Tryz.f72.ntmps = 26 := Tryz.ntmps72
def ic_policy_days : IC := (.seq (io [.o 1 (.box t0), em 2 cf])
  (.seq (.seq (io [ef 6 17 17 t1, el 7 false 1 t6, .o 8 (.len t7), eb 9 .gtr t8 (ci 64)])
  (.cond t9
  (.seq (io [em 2 cf])
  .ret)
  .skip))
  (.seq (io [em 3 (ci 0)])
  (.seq (.seq (io [ef 10 17 17 t1, el 11 false 1 t10, .o 12 (.len t11), em 13 (ci 0)])
  (.block 0 (.loop (.seq (io [eb 14 .lss t13 t12])
  (.seq (.cond t14
  .skip
  (.exit 0))
  (.seq (.block 1 (.seq (io [es 15 1 t11 t13, el 16 false 1 t15, em 5 t16])
  (.seq (.seq (io [em 17 t5, em 18 t3, eb 19 .leq t17 t18, em 20 t19, .og 21 20 false (.mv t5), .og 22 20 false (.bin .gtr t21 (ci 3652059)), .o 23 (.pick t20 ct t22)])
  (.cond t23
  (.seq (io [em 2 cf])
  .ret)
  .skip))
  (.ops [em 24 t5, em 3 t24]))))
  (.ops [eb 25 .add t13 (ci 1), em 13 t25])))))))
  (.seq (io [em 2 ct])
  .ret)))))
theorem hc_policy_days : compF Tryz.prog 26 Tryz.f72 = some (ic_policy_days, [.t 2]) := by kernel_rfl

theorem fn_aging_lateness : Tryz.prog.funcs[aging_lateness]? = some Tryz.f73 := Tryz.func73
theorem nt_aging_lateness : Tryz.f73.ntmps = 13 := Tryz.ntmps73
def ic_aging_lateness : IC := (.seq (io [.o 2 (.box t0), em 4 (ci 0)])
  (.seq (.seq (io [em 5 t1, ef 6 0 0 t2, el 7 false 1 t6, eb 8 .leq t5 t7])
  (.cond t8
  (.seq (io [em 4 (ci 0)])
  .ret)
  .skip))
  (.seq (io [em 9 t1, ef 10 0 0 t2, el 11 false 1 t10, eb 12 .sub t9 t11, em 4 t12])
  .ret)))
theorem hc_aging_lateness : compF Tryz.prog 13 Tryz.f73 = some (ic_aging_lateness, [.t 4]) := by kernel_rfl

theorem fn_ledger_Balance : Tryz.prog.funcs[ledger_Balance]? = some Tryz.f74 := Tryz.func74
theorem nt_ledger_Balance : Tryz.f74.ntmps = 26 := Tryz.ntmps74
def ic_ledger_Balance : IC := (.seq (io [.o 2 (.box t0), em 4 (ci 0), em 5 (ci 0)])
  (.seq (.seq (io [em 7 t1, eb 8 .lss t7 (ci 0), em 9 t8, .og 10 9 false (.mv t1), .og 11 9 false (.bin .geq t10 (ci 12)), .o 12 (.pick t9 ct t11)])
  (.cond t12
  (.seq (io [em 4 (ci 0), em 5 (ci 80)])
  .ret)
  .skip))
  (.seq (io [em 13 t1, ef 14 0 0 t2, .o 15 (.ixa 12 1 t14 t13), el 16 false 1 t15, em 6 t16])
  (.seq (.seq (io [em 17 t1, .o 18 (.ixa 12 1 (.g 0) t17), el 19 false 1 t18, eb 20 .gtr t19 (ci 0)])
  (.cond t20
  (.seq (io [em 21 t6, em 4 t21, em 5 (ci 0)])
  .ret)
  .skip))
  (.seq (.seq (io [em 22 t6, eb 23 .eql t22 (ci (-9223372036854775808))])
  (.cond t23
  (.seq (io [em 4 (ci 0), em 5 (ci 3)])
  .ret)
  .skip))
  (.seq (io [em 24 t6, .o 25 (.un .neg t24), em 4 t25, em 5 (ci 0)])
  .ret))))))
theorem hc_ledger_Balance : compF Tryz.prog 26 Tryz.f74 = some (ic_ledger_Balance, [.t 4, .t 5]) := by kernel_rfl

theorem fn_aging_sound : Tryz.prog.funcs[aging_sound]? = some Tryz.f75 := Tryz.func75
theorem nt_aging_sound : Tryz.f75.ntmps = 54 := Tryz.ntmps75
def ic_aging_sound : IC := (.seq (io [em 2 cf])
  (.seq (io [em 3 ct])
  (.seq (io [em 4 (ci 0)])
  (.seq (io [em 10 t0, .o 11 (.len t10), eb 12 .mul (ci 2) t11, .o 13 (.mks 1 8 2 zi (ci 0) t12), em 5 t13])
  (.seq .skip
  (.seq (.seq (io [em 14 t0, .o 15 (.len t14), em 16 (ci 0)])
  (.block 0 (.loop (.seq (io [eb 17 .lss t16 t15])
  (.seq (.cond t17
  .skip
  (.exit 0))
  (.seq (.block 1 (.seq (io [es 18 4 t14 t16, el 19 true 4 t18, .o 7 (.alloc (.st (zc (zc (zc (zf .nil)))))), .n (.sto 4 t7 t19)])
  (.seq (.seq (io [ef 20 0 0 t7, el 21 false 1 t20, em 22 t4, eb 23 .leq t21 t22, em 24 t23, .og 25 24 false (.fa 0 0 t7), .og 26 24 false (.ld false 1 t25), .og 27 24 false (.bin .gtr t26 (ci 3652059)), .o 28 (.pick t24 ct t27)])
  (.cond t28
  (.seq (io [em 3 cf])
  (.exit 0))
  .skip))
  (.seq (io [ef 29 0 0 t7, el 30 false 1 t29, em 4 t30])
  (.seq (io [ef 31 1 1 t7, el 32 false 1 t31, ef 33 2 2 t7, el 34 false 1 t33, .o 35 (.build (.arr 2 1 fun _ => zi) [(0, 0, 1, t32), (1, 1, 1, t34)]), em 36 (ci 0)])
  (.block 2 (.loop (.seq (io [eb 37 .lss t36 (ci 2)])
  (.seq (.cond t37
  .skip
  (.exit 2))
  (.seq (.block 3 (.seq (io [.o 38 (.ix false 2 1 t35 t36), em 9 t38])
  (.seq (.seq (io [em 39 t9, eb 40 .lss t39 (ci 0)])
  (.cond t40
  (.seq (io [em 3 cf])
  (.exit 0))
  .skip))
  (.ops [em 41 t5, em 42 t9, .o 43 (.bsl 1 2 zi [(0, 0, 1, t42)]), .o 44 (.app 1 8 2 t41 t43), em 5 t44]))))
  (.ops [eb 45 .add t36 (ci 1), em 36 t45])))))))))))
  (.ops [eb 46 .add t16 (ci 1), em 16 t46])))))))
  (.seq (.seq (io [em 47 t3])
  (.cond t47
  (.ops [em 49 t5, ec 50 102 [t49], em 48 t50, ex 51 0 t48, ex 52 1 t48, em 3 t52])
  .skip))
  (.seq (io [em 53 t3, em 2 t53])
  .ret))))))))
theorem hc_aging_sound : compF Tryz.prog 54 Tryz.f75 = some (ic_aging_sound, [.t 2]) := by kernel_rfl

theorem fn_aging_front : Tryz.prog.funcs[aging_front]? = some Tryz.f76 := Tryz.func76
theorem nt_aging_front : Tryz.f76.ntmps = 47 := Tryz.ntmps76
def ic_aging_front : IC := (.seq (io [.o 3 (.box t1), em 4 (ci 0)])
  (.seq (.seq (io [ef 8 1 1 t3, el 9 false 1 t8, eb 10 .leq t9 (ci 0)])
  (.cond t10
  (.seq (io [em 11 t0, .o 12 (.len t11), em 4 t12])
  .ret)
  .skip))
  (.seq (io [ef 13 0 0 t3, el 14 false 1 t13, .o 15 (.mm true t14 (ci 0)), em 5 t15])
  (.seq (.seq (io [em 16 t0, .o 17 (.len t16), em 18 (ci 0)])
  (.block 0 (.loop (.seq (io [eb 19 .lss t18 t17])
  (.seq (.cond t19
  .skip
  (.exit 0))
  (.seq (.block 1 (.seq (io [em 20 t18, em 6 t20])
  (.seq (.dops [em 21 t0, em 22 t6, es 23 4 t21 t22, ef 24 1 1 t23, el 25 false 1 t24, em 26 t0, em 27 t6, es 28 4 t26 t27, ef 29 2 2 t28, el 30 false 1 t29, eb 31 .add t25 t30, em 7 t31])
  (.seq (.seq (io [em 32 t6, em 33 t0, .o 34 (.len t33), eb 35 .sub t34 (ci 1), eb 36 .eql t32 t35, em 37 t36, .og 38 37 false (.mv t7), .og 39 37 false (.mv t5), .og 40 37 false (.bin .gtr t38 t39), .o 41 (.pick t37 ct t40)])
  (.cond t41
  (.seq (io [em 42 t6, em 4 t42])
  .ret)
  .skip))
  (.ops [em 43 t5, em 44 t7, eb 45 .sub t43 t44, em 5 t45])))))
  (.ops [eb 46 .add t18 (ci 1), em 18 t46])))))))
  (.seq (io [em 4 (ci 0)])
  .ret)))))
theorem hc_aging_front : compF Tryz.prog 47 Tryz.f76 = some (ic_aging_front, [.t 4]) := by kernel_rfl

theorem fn_internal_strconv_FormatInt : Tryz.prog.funcs[internal_strconv_FormatInt]? = some Tryz.f77 := Tryz.func77
theorem nt_internal_strconv_FormatInt : Tryz.f77.ntmps = 54 := Tryz.ntmps77
def ic_internal_strconv_FormatInt : IC := (.seq (io [em 4 (.c (.string ⟨#[]⟩))])
  (.seq (.seq (io [em 10 t1, eb 11 .eql t10 (ci 10)])
  (.cond t11
  (.seq (.seq (io [em 12 t0, eb 13 .leq (ci 0) t12, em 14 t13, .og 15 14 true (.mv t0), .og 16 14 true (.bin .lss t15 (ci 100)), .o 17 (.pick t14 t16 cf)])
  (.cond t17
  (.seq (io [em 18 t0, ec 19 103 [t18], em 4 t19])
  .ret)
  .skip))
  (.seq (io [.o 5 (.alloc (.arr 24 1 fun _ => (.val (.int .u8 0))))])
  (.seq (io [em 20 t0, .o 21 (.conv .u64 t20), em 6 t21])
  (.seq (.seq (io [em 22 t0, eb 23 .lss t22 (ci 0)])
  (.cond t23
  (.ops [em 24 t6, .o 25 (.un .neg t24), em 6 t25])
  .skip))
  (.seq (io [em 26 t6, ec 27 104 [t26], em 7 t27])
  (.seq (io [em 28 t7, eb 29 .add (ci 1) t28, .o 30 (.dead), em 31 t6, ec 32 105 [t30, t31]])
  (.seq (.seq (io [em 33 t0, eb 34 .lss t33 (ci 0)])
  (.cond t34
  (.seq (io [.o 35 (.ixa 24 1 t5 (ci 0)), .n (.sto 1 t35 (.c (.int .u8 45)))])
  (.seq (io [em 36 t7, eb 37 .add (ci 1) t36, .o 38 (.dead), .o 39 (.b2s t38), em 4 t39])
  .ret))
  .skip))
  (.seq (io [em 40 t7, eb 41 .add (ci 1) t40, .o 42 (.dead), .o 43 (.b2s t42), em 4 t43])
  .ret))))))))
  .skip))
  (.seq (io [em 45 t0, .o 46 (.conv .u64 t45), em 47 t1, em 48 t0, eb 49 .lss t48 (ci 0), ec 50 106 [(.c (.slice none 0 0)), t46, t47, t49, cf], em 44 t50, ex 51 0 t44, ex 52 1 t44, em 8 t51, em 9 t52])
  (.seq (io [em 53 t9, em 4 t53])
  .ret))))
theorem hc_internal_strconv_FormatInt : compF Tryz.prog 54 Tryz.f77 = some (ic_internal_strconv_FormatInt, [.t 4]) := by kernel_rfl

theorem fn_r14_begin : Tryz.prog.funcs[r14_begin]? = some Tryz.f78 := Tryz.func78
theorem nt_r14_begin : Tryz.f78.ntmps = 17 := Tryz.ntmps78
def ic_r14_begin : IC := (.seq (io [.o 2 (.box t0), .o 3 (.box t1), .o 4 (.alloc (.st (.cons (.st (zc (zc (zc (zc (zc (zc (zc (zc (zc (zc (zc (zc (zc (zc (zc (zc (zc (.cons zs .nil))))))))))))))))))) (.cons (.st (zc (.cons (.st (zc (zc (zc (zc (zc (zc .nil))))))) (.cons zs (.cons (.st (.cons (.arr 12 1 fun _ => zi) .nil)) (.cons (.st (zc (zf (zc (zc (zc (zc (zc (zc (zc (zc (zc (zc (zc (zc (zc .nil)))))))))))))))) (zc (zc (zc (.cons (.st (zc (zc (zc (zc (zc .nil)))))) (zf (zc (zc .nil))))))))))))) (.cons (.st (zc (zc (zc (zc (zc .nil)))))) (.cons zs (zc .nil)))))))])
  (.seq (io [el 8 true 18 t2, ec 9 5 [t8], em 7 t9, ex 10 0 t7, ex 11 1 t7, em 5 t10, em 6 t11])
  (.seq (.dops [el 12 true 18 t2, el 13 true 46 t3, ec 14 107 [t13], em 15 t5, .o 16 (.build (.st (.cons (.st (zc (zc (zc (zc (zc (zc (zc (zc (zc (zc (zc (zc (zc (zc (zc (zc (zc (.cons zs .nil))))))))))))))))))) (.cons (.st (zc (.cons (.st (zc (zc (zc (zc (zc (zc .nil))))))) (.cons zs (.cons (.st (.cons (.arr 12 1 fun _ => zi) .nil)) (.cons (.st (zc (zf (zc (zc (zc (zc (zc (zc (zc (zc (zc (zc (zc (zc (zc .nil)))))))))))))))) (zc (zc (zc (.cons (.st (zc (zc (zc (zc (zc .nil)))))) (zf (zc (zc .nil))))))))))))) (.cons (.st (zc (zc (zc (zc (zc .nil)))))) (.cons zs (zc .nil)))))) [(0, 0, 18, t12), (1, 18, 46, t14), (4, 70, 1, t15)]), .n (.sto 71 t4 t16)])
  .ret)))
theorem hc_r14_begin : compF Tryz.prog 17 Tryz.f78 = some (ic_r14_begin, [.c 4 true 71]) := by kernel_rfl

theorem fn_r14_fail : Tryz.prog.funcs[r14_fail]? = some Tryz.f79 := Tryz.func79
theorem nt_r14_fail : Tryz.f79.ntmps = 16 := Tryz.ntmps79
def ic_r14_fail : IC := (.seq (io [.o 3 (.box t0), .o 6 (.alloc (.st (.cons (.st (zc (zc (zc (zc (zc (zc (zc (zc (zc (zc (zc (zc (zc (zc (zc (zc (zc (.cons zs .nil))))))))))))))))))) (.cons (.st (zc (.cons (.st (zc (zc (zc (zc (zc (zc .nil))))))) (.cons zs (.cons (.st (.cons (.arr 12 1 fun _ => zi) .nil)) (.cons (.st (zc (zf (zc (zc (zc (zc (zc (zc (zc (zc (zc (zc (zc (zc (zc .nil)))))))))))))))) (zc (zc (zc (.cons (.st (zc (zc (zc (zc (zc .nil)))))) (zf (zc (zc .nil))))))))))))) (.cons (.st (zc (zc (zc (zc (zc .nil)))))) (.cons zs (zc .nil)))))))])
  (.seq (.seq (io [ef 7 4 70 t3, el 8 false 1 t7, eb 9 .eql t8 (ci 0), em 10 t9, .og 11 10 true (.mv t1), .o 12 (.pick t10 t11 cf)])
  (.cond t12
  (.ops [em 13 t2, ef 14 4 70 t3, .n (.sto 1 t14 t13)])
  .skip))
  (.seq (io [el 15 true 71 t3, .n (.sto 71 t6 t15)])
  .ret)))
theorem hc_r14_fail : compF Tryz.prog 16 Tryz.f79 = some (ic_r14_fail, [.c 6 true 71]) := by kernel_rfl

theorem fn_r14_wrong : Tryz.prog.funcs[r14_wrong]? = some Tryz.f80 := Tryz.func80
theorem nt_r14_wrong : Tryz.f80.ntmps = 59 := Tryz.ntmps80
def ic_r14_wrong : IC := (.seq (io [.o 1 (.box t0), em 2 cf])
  (.seq (.seq (io [ef 3 0 0 t1, el 4 false 1 t3, eb 5 .lss t4 (ci 0), em 6 t5, .og 7 6 false (.fa 0 0 t1), .og 8 6 false (.ld false 1 t7), .og 9 6 false (.bin .gtr t8 (ci 2)), .o 10 (.pick t6 ct t9), em 11 t10, .og 12 11 false (.fa 1 1 t1), .og 13 11 false (.ld false 1 t12), .og 14 11 false (.bin .lss t13 (ci 1)), .o 15 (.pick t11 ct t14), em 16 t15, .og 17 16 false (.fa 1 1 t1), .og 18 16 false (.ld false 1 t17), .og 19 16 false (.bin .gtr t18 (ci 10000000000000)), .o 20 (.pick t16 ct t19), em 21 t20, .og 22 21 false (.fa 2 2 t1), .og 23 21 false (.ld false 1 t22), .og 24 21 false (.bin .lss t23 (ci 0)), .o 25 (.pick t21 ct t24), em 26 t25, .og 27 26 false (.fa 2 2 t1), .og 28 26 false (.ld false 1 t27), .og 29 26 false (.bin .gtr t28 (ci 100000)), .o 30 (.pick t26 ct t29)])
  (.cond t30
  (.seq (io [em 2 ct])
  .ret)
  .skip))
  (.seq (io [ef 31 3 3 t1, el 32 false 1 t31, eb 33 .lss t32 (ci 1), em 34 t33, .og 35 34 false (.fa 3 3 t1), .og 36 34 false (.ld false 1 t35), .og 37 34 false (.bin .gtr t36 (ci 120)), .o 38 (.pick t34 ct t37), em 39 t38, .og 40 39 false (.fa 4 4 t1), .og 41 39 false (.ld false 1 t40), .og 42 39 false (.bin .lss t41 (ci 1)), .o 43 (.pick t39 ct t42), em 44 t43, .og 45 44 false (.fa 4 4 t1), .og 46 44 false (.ld false 1 t45), .og 47 44 false (.bin .gtr t46 (ci 3652059)), .o 48 (.pick t44 ct t47), em 49 t48, .og 50 49 false (.fa 5 5 t1), .og 51 49 false (.ld false 1 t50), .og 52 49 false (.bin .lss t51 (ci 0)), .o 53 (.pick t49 ct t52), em 54 t53, .og 55 54 false (.fa 5 5 t1), .og 56 54 false (.ld false 1 t55), .og 57 54 false (.bin .gtr t56 (ci 3)), .o 58 (.pick t54 ct t57), em 2 t58])
  .ret)))
theorem hc_r14_wrong : compF Tryz.prog 59 Tryz.f80 = some (ic_r14_wrong, [.t 2]) := by kernel_rfl

theorem fn_r3_Plan : Tryz.prog.funcs[r3_Plan]? = some Tryz.f81 := Tryz.func81
theorem nt_r3_Plan : Tryz.f81.ntmps = 81 := Tryz.ntmps81
def ic_r3_Plan : IC := (.seq (io [.o 2 (.box t0), em 4 (.c (.slice none 0 0)), em 5 cf])
  (.seq (.seq (io [el 15 true 6 t2, ec 16 108 [t15], .o 17 (.un .not t16), em 18 t17, .og 19 18 false (.mv t1), .og 20 18 false (.len t19), .og 21 18 false (.bin .gtr t20 (ci 64)), .o 22 (.pick t18 ct t21)])
  (.cond t22
  (.seq (io [em 4 (.c (.slice none 0 0)), em 5 cf])
  .ret)
  .skip))
  (.seq (io [ef 24 1 1 t2, el 25 false 1 t24, ef 26 2 2 t2, el 27 false 1 t26, ef 28 3 3 t2, el 29 false 1 t28, ec 30 109 [t25, t27, t29], em 23 t30, ex 31 0 t23, ex 32 1 t23, em 6 t31, em 7 t32])
  (.seq (io [em 8 (.c (.slice none 0 0))])
  (.seq (io [ef 33 1 1 t2, el 34 false 1 t33, em 9 t34])
  (.seq (.seq (io [em 10 (ci 1)])
  (.block 0 (.loop (.seq (.seq (io [em 35 t10, ef 36 3 3 t2, el 37 false 1 t36, eb 38 .leq t35 t37])
  (.cond t38
  .skip
  (.exit 0)))
  (.seq (.block 1 (.seq (io [em 41 t9, ef 42 2 2 t2, el 43 false 1 t42, ec 44 110 [t41, t43], em 11 t44])
  (.seq (io [el 45 true 6 t2, em 46 t6, em 47 t10, em 48 t9, em 49 t11, ec 50 111 [t45, t46, t47, t48, t49], em 12 t50])
  (.seq (io [em 51 t9, eb 52 .gtr t51 (ci 0), em 53 t52, .og 54 53 true (.mv t11), .og 55 53 true (.bin .gtr t54 (ci 0)), .og 56 53 true (.mv t55), .og 57 56 false (.mv t12), .og 58 56 false (.bin .gtr t57 (ci 0)), .og 59 53 true (.pick t56 ct t58), .o 60 (.pick t53 t59 cf)])
  (.cond t60
  (.seq (io [el 62 true 6 t2, em 63 t1, em 64 t10, ec 65 112 [t62, t63, t64], em 61 t65, ex 66 0 t61, ex 67 1 t61, em 13 t66, em 14 t67])
  (.seq (.seq (io [em 68 t14, .o 69 (.un .not t68)])
  (.cond t69
  (.seq (io [em 4 (.c (.slice none 0 0)), em 5 cf])
  .ret)
  .skip))
  (.seq (io [em 70 t8, em 71 t13, em 72 t11, em 73 t12, .o 74 (.build (.st (zc (zc (zc (zf .nil))))) [(0, 0, 1, t71), (1, 1, 1, t72), (2, 2, 1, t73)]), .o 75 (.bsl 4 69 (.st (zc (zc (zc (zf .nil))))) [(0, 0, 4, t74)]), .o 76 (.app 4 32 69 t70 t75), em 8 t76])
  (.ops [em 77 t9, em 78 t12, eb 79 .sub t77 t78, em 9 t79]))))
  .skip)))))
  (.ops [em 39 t10, eb 40 .add t39 (ci 1), em 10 t40]))))))
  (.seq (io [em 80 t8, em 4 t80, em 5 ct])
  .ret)))))))
theorem hc_r3_Plan : compF Tryz.prog 81 Tryz.f81 = some (ic_r3_Plan, [.t 4, .t 5]) := by kernel_rfl

theorem fn_r13_Fresh : Tryz.prog.funcs[r13_Fresh]? = some Tryz.f82 := Tryz.func82
theorem nt_r13_Fresh : Tryz.f82.ntmps = 2 := Tryz.ntmps82
def ic_r13_Fresh : IC := (.seq (io [.o 0 (.alloc (.st (zc (zf (zc (zc (zc (zc (zc (zc (zc (zc (zc (zc (zc (zc (zc .nil)))))))))))))))))])
  (.seq (io [.o 1 (.build (.st (zc (zf (zc (zc (zc (zc (zc (zc (zc (zc (zc (zc (zc (zc (zc .nil)))))))))))))))) [(0, 0, 1, (ci 1))]), .n (.sto 15 t0 t1)])
  .ret))
theorem hc_r13_Fresh : compF Tryz.prog 2 Tryz.f82 = some (ic_r13_Fresh, [.c 0 true 15]) := by kernel_rfl

theorem fn_r14_posted : Tryz.prog.funcs[r14_posted]? = some Tryz.f83 := Tryz.func83
theorem nt_r14_posted : Tryz.f83.ntmps = 25 := Tryz.ntmps83
def ic_r14_posted : IC := (.seq (io [.o 2 (.box t0), .o 4 (.alloc (.st (.cons (.st (zc (zc (zc (zc (zc (zc (zc (zc (zc (zc (zc (zc (zc (zc (zc (zc (zc (.cons zs .nil))))))))))))))))))) (.cons (.st (zc (.cons (.st (zc (zc (zc (zc (zc (zc .nil))))))) (.cons zs (.cons (.st (.cons (.arr 12 1 fun _ => zi) .nil)) (.cons (.st (zc (zf (zc (zc (zc (zc (zc (zc (zc (zc (zc (zc (zc (zc (zc .nil)))))))))))))))) (zc (zc (zc (.cons (.st (zc (zc (zc (zc (zc .nil)))))) (zf (zc (zc .nil))))))))))))) (.cons (.st (zc (zc (zc (zc (zc .nil)))))) (.cons zs (zc .nil)))))))])
  (.seq (.seq (io [ef 7 4 70 t2, el 8 false 1 t7, eb 9 .neq t8 (ci 0)])
  (.cond t9
  (.seq (io [el 10 true 71 t2, .n (.sto 71 t4 t10)])
  .ret)
  .skip))
  (.seq (io [ef 12 1 18 t2, ef 13 3 8 t12, el 14 true 12 t13, em 15 t1, ec 16 113 [t14, t15], em 11 t16, ex 17 0 t11, ex 18 1 t11, .o 5 (.alloc (.st (.cons (.arr 12 1 fun _ => zi) .nil))), .n (.sto 12 t5 t17), em 6 t18])
  (.seq (io [el 19 true 12 t5, ef 20 1 18 t2, ef 21 3 8 t20, .n (.sto 12 t21 t19)])
  (.seq (io [em 22 t6, ef 23 4 70 t2, .n (.sto 1 t23 t22)])
  (.seq (io [el 24 true 71 t2, .n (.sto 71 t4 t24)])
  .ret))))))
theorem hc_r14_posted : compF Tryz.prog 25 Tryz.f83 = some (ic_r14_posted, [.c 4 true 71]) := by kernel_rfl

theorem fn_r14_move : Tryz.prog.funcs[r14_move]? = some Tryz.f84 := Tryz.func84
theorem nt_r14_move : Tryz.f84.ntmps = 19 := Tryz.ntmps84
def ic_r14_move : IC := (.seq (io [em 8 (.c (.slice none 0 0))])
  (.seq (.seq (io [em 9 t3, eb 10 .eql t9 (ci 0)])
  (.cond t10
  (.seq (io [em 11 t0, em 8 t11])
  .ret)
  .skip))
  (.seq (io [em 12 t0, em 13 t1, em 14 t2, em 15 t3, .o 16 (.build (.st (zc (zc (zc .nil)))) [(0, 0, 1, t13), (1, 1, 1, t14), (2, 2, 1, t15)]), .o 17 (.bsl 3 158 (.st (zc (zc (zc .nil)))) [(0, 0, 3, t16)]), .o 18 (.app 3 24 158 t12 t17), em 8 t18])
  .ret)))
theorem hc_r14_move : compF Tryz.prog 19 Tryz.f84 = some (ic_r14_move, [.t 8]) := by kernel_rfl

theorem fn_r14_done : Tryz.prog.funcs[r14_done]? = some Tryz.f85 := Tryz.func85
theorem nt_r14_done : Tryz.f85.ntmps = 20 := Tryz.ntmps85
def ic_r14_done : IC := (.seq (io [.o 2 (.box t0), .o 3 (.box t1), .o 4 (.alloc (.st (.cons (.st (zc (.cons (.st (zc (zc (zc (zc (zc (zc .nil))))))) (.cons zs (.cons (.st (.cons (.arr 12 1 fun _ => zi) .nil)) (.cons (.st (zc (zf (zc (zc (zc (zc (zc (zc (zc (zc (zc (zc (zc (zc (zc .nil)))))))))))))))) (zc (zc (zc (.cons (.st (zc (zc (zc (zc (zc .nil)))))) (zf (zc (zc .nil))))))))))))) (.cons (.st (zc (zc (zc (zc (zc .nil)))))) (.cons zs (zc .nil))))))])
  (.seq (.seq (io [ef 5 4 70 t2, el 6 false 1 t5, eb 7 .neq t6 (ci 0)])
  (.cond t7
  (.seq (.dops [el 8 true 46 t3, ec 9 107 [t8], ef 10 4 70 t2, el 11 false 1 t10, .o 12 (.build (.st (.cons (.st (zc (.cons (.st (zc (zc (zc (zc (zc (zc .nil))))))) (.cons zs (.cons (.st (.cons (.arr 12 1 fun _ => zi) .nil)) (.cons (.st (zc (zf (zc (zc (zc (zc (zc (zc (zc (zc (zc (zc (zc (zc (zc .nil)))))))))))))))) (zc (zc (zc (.cons (.st (zc (zc (zc (zc (zc .nil)))))) (zf (zc (zc .nil))))))))))))) (.cons (.st (zc (zc (zc (zc (zc .nil)))))) (.cons zs (zc .nil))))) [(0, 0, 46, t9), (3, 52, 1, t11)]), .n (.sto 53 t4 t12)])
  .ret)
  .skip))
  (.seq (io [ef 13 1 18 t2, el 14 true 46 t13, ef 15 2 64 t2, el 16 true 5 t15, ef 17 3 69 t2, el 18 false 1 t17, .o 19 (.build (.st (.cons (.st (zc (.cons (.st (zc (zc (zc (zc (zc (zc .nil))))))) (.cons zs (.cons (.st (.cons (.arr 12 1 fun _ => zi) .nil)) (.cons (.st (zc (zf (zc (zc (zc (zc (zc (zc (zc (zc (zc (zc (zc (zc (zc .nil)))))))))))))))) (zc (zc (zc (.cons (.st (zc (zc (zc (zc (zc .nil)))))) (zf (zc (zc .nil))))))))))))) (.cons (.st (zc (zc (zc (zc (zc .nil)))))) (.cons zs (zc .nil))))) [(0, 0, 46, t14), (1, 46, 5, t16), (2, 51, 1, t18)]), .n (.sto 53 t4 t19)])
  .ret)))
theorem hc_r14_done : compF Tryz.prog 20 Tryz.f85 = some (ic_r14_done, [.c 4 true 53]) := by kernel_rfl

theorem fn_r14_Roll : Tryz.prog.funcs[r14_Roll]? = some Tryz.f86 := Tryz.func86
theorem nt_r14_Roll : Tryz.f86.ntmps = 39 := Tryz.ntmps86
def ic_r14_Roll : IC := (.seq (io [.o 2 (.box t0), .o 3 (.box t1), .o 4 (.alloc (.st (.cons (.st (zc (.cons (.st (zc (zc (zc (zc (zc (zc .nil))))))) (.cons zs (.cons (.st (.cons (.arr 12 1 fun _ => zi) .nil)) (.cons (.st (zc (zf (zc (zc (zc (zc (zc (zc (zc (zc (zc (zc (zc (zc (zc .nil)))))))))))))))) (zc (zc (zc (.cons (.st (zc (zc (zc (zc (zc .nil)))))) (zf (zc (zc .nil))))))))))))) (.cons (.st (zc (zc (zc (zc (zc .nil)))))) (.cons zs (zc .nil))))))])
  (.seq (io [el 6 true 18 t2, el 7 true 46 t3, ec 8 78 [t6, t7], .o 5 (.alloc (.st (.cons (.st (zc (zc (zc (zc (zc (zc (zc (zc (zc (zc (zc (zc (zc (zc (zc (zc (zc (.cons zs .nil))))))))))))))))))) (.cons (.st (zc (.cons (.st (zc (zc (zc (zc (zc (zc .nil))))))) (.cons zs (.cons (.st (.cons (.arr 12 1 fun _ => zi) .nil)) (.cons (.st (zc (zf (zc (zc (zc (zc (zc (zc (zc (zc (zc (zc (zc (zc (zc .nil)))))))))))))))) (zc (zc (zc (.cons (.st (zc (zc (zc (zc (zc .nil)))))) (zf (zc (zc .nil))))))))))))) (.cons (.st (zc (zc (zc (zc (zc .nil)))))) (.cons zs (zc .nil))))))), .n (.sto 71 t5 t8)])
  (.seq (io [el 9 true 71 t5, ef 10 5 35 t3, el 11 false 1 t10, eb 12 .geq t11 (ci 3652059), ec 13 79 [t9, t12, (ci 141)], .n (.sto 71 t5 t13)])
  (.seq (io [el 14 true 71 t5, ec 15 114 [t14, (ci 1)], .n (.sto 71 t5 t15)])
  (.seq (.seq (io [ef 16 4 70 t5, el 17 false 1 t16, eb 18 .neq t17 (ci 0), em 19 t18, .og 20 19 false (.ld true 46 t3), .og 21 19 false (.call 115 [t20]), .o 22 (.pick t19 ct t21)])
  (.cond t22
  (.seq (io [el 23 true 71 t5, el 24 true 46 t3, ec 25 85 [t23, t24], .n (.sto 53 t4 t25)])
  .ret)
  .skip))
  (.seq (.dops [el 26 true 71 t5, ef 27 1 18 t5, ef 28 5 35 t27, el 29 false 1 t28, ef 30 1 18 t5, el 31 true 46 t30, ec 32 42 [t31], .o 33 (.build (.st (zc (zc (zc (zc .nil))))) [(0, 0, 1, (ci 1)), (1, 1, 1, t29), (2, 2, 1, t32)]), ec 34 116 [t26, t33], .n (.sto 71 t5 t34)])
  (.seq (.dops [el 35 true 71 t5, ec 36 117 [t35], el 37 true 46 t3, ec 38 85 [t36, t37], .n (.sto 53 t4 t38)])
  .ret)))))))
theorem hc_r14_Roll : compF Tryz.prog 39 Tryz.f86 = some (ic_r14_Roll, [.c 4 true 53]) := by kernel_rfl

theorem fn_r14_Pay : Tryz.prog.funcs[r14_Pay]? = some Tryz.f87 := Tryz.func87
theorem nt_r14_Pay : Tryz.f87.ntmps = 72 := Tryz.ntmps87
def ic_r14_Pay : IC := (.seq (io [.o 3 (.box t0), .o 4 (.box t1), .o 6 (.alloc (.st (.cons (.st (zc (.cons (.st (zc (zc (zc (zc (zc (zc .nil))))))) (.cons zs (.cons (.st (.cons (.arr 12 1 fun _ => zi) .nil)) (.cons (.st (zc (zf (zc (zc (zc (zc (zc (zc (zc (zc (zc (zc (zc (zc (zc .nil)))))))))))))))) (zc (zc (zc (.cons (.st (zc (zc (zc (zc (zc .nil)))))) (zf (zc (zc .nil))))))))))))) (.cons (.st (zc (zc (zc (zc (zc .nil)))))) (.cons zs (zc .nil))))))])
  (.seq (io [el 10 true 18 t3, el 11 true 46 t4, ec 12 78 [t10, t11], .o 7 (.alloc (.st (.cons (.st (zc (zc (zc (zc (zc (zc (zc (zc (zc (zc (zc (zc (zc (zc (zc (zc (zc (.cons zs .nil))))))))))))))))))) (.cons (.st (zc (.cons (.st (zc (zc (zc (zc (zc (zc .nil))))))) (.cons zs (.cons (.st (.cons (.arr 12 1 fun _ => zi) .nil)) (.cons (.st (zc (zf (zc (zc (zc (zc (zc (zc (zc (zc (zc (zc (zc (zc (zc .nil)))))))))))))))) (zc (zc (zc (.cons (.st (zc (zc (zc (zc (zc .nil)))))) (zf (zc (zc .nil))))))))))))) (.cons (.st (zc (zc (zc (zc (zc .nil)))))) (.cons zs (zc .nil))))))), .n (.sto 71 t7 t12)])
  (.seq (io [el 13 true 71 t7, em 14 t2, eb 15 .lss t14 (ci 1), ec 16 79 [t13, t15, (ci 4)], .n (.sto 71 t7 t16)])
  (.seq (io [el 18 true 18 t3, el 19 true 46 t4, em 20 t2, ec 21 118 [t18, t19, t20], em 17 t21, ex 22 0 t17, ex 23 1 t17, .o 8 (.alloc (.st (zc (zc (zc (zc (zc .nil))))))), .n (.sto 5 t8 t22), em 9 t23])
  (.seq (io [el 24 true 71 t7, em 25 t9, eb 26 .neq t25 (ci 0), em 27 t9, ec 28 79 [t24, t26, t27], .n (.sto 71 t7 t28)])
  (.seq (.dops [el 29 true 71 t7, el 30 true 5 t8, ec 31 119 [t30], ec 32 83 [t29, t31], .n (.sto 71 t7 t32)])
  (.seq (io [el 33 true 5 t8, ef 34 2 64 t7, .n (.sto 5 t34 t33)])
  (.seq (.seq (io [ef 35 4 70 t7, el 36 false 1 t35, eb 37 .neq t36 (ci 0), em 38 t37, .og 39 38 false (.ld true 46 t4), .og 40 38 false (.call 115 [t39]), .o 41 (.pick t38 ct t40)])
  (.cond t41
  (.seq (io [el 42 true 71 t7, el 43 true 46 t4, ec 44 85 [t42, t43], .n (.sto 53 t6 t44)])
  .ret)
  .skip))
  (.seq (io [ef 45 1 18 t7, ef 46 7 37 t45, el 47 false 1 t46, ef 48 1 1 t8, el 49 false 1 t48, eb 50 .add t47 t49, ef 51 2 2 t8, el 52 false 1 t51, eb 53 .add t50 t52, ef 54 1 18 t7, ef 55 7 37 t54, .n (.sto 1 t55 t53)])
  (.seq (io [el 56 true 5 t8, ef 57 1 18 t7, ef 58 8 38 t57, .n (.sto 5 t58 t56)])
  (.seq (io [ef 59 1 18 t7, ef 60 9 43 t59, .n (.sto 1 t60 ct)])
  (.seq (.dops [el 61 true 71 t7, em 62 t2, ef 63 1 18 t7, el 64 true 46 t63, ec 65 42 [t64], .o 66 (.build (.st (zc (zc (zc (zc .nil))))) [(0, 0, 1, (ci 2)), (3, 3, 1, t62), (2, 2, 1, t65)]), ec 67 116 [t61, t66], .n (.sto 71 t7 t67)])
  (.seq (.dops [el 68 true 71 t7, ec 69 120 [t68], el 70 true 46 t4, ec 71 85 [t69, t70], .n (.sto 53 t6 t71)])
  .ret)))))))))))))
theorem hc_r14_Pay : compF Tryz.prog 72 Tryz.f87 = some (ic_r14_Pay, [.c 6 true 53]) := by kernel_rfl

end Go.Proofs.YtaomkjcclcgdlaaGreatDoor
