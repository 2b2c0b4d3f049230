/- The given functions as the walk reads them: each constant is what the program's text comes to. No condition. -/
import Derived.Test.YtjkmmcbfcglkdaaGreatK7
import Derived.Test.YtjkmmcbfcglkdaaGreatProg
import Derived.KernelRfl
set_option linter.all false
namespace Go.Proofs.YtjkmmcbfcglkdaaGreat
open Go Ar
set_option linter.unusedVariables false
set_option maxRecDepth 100000

abbrev gl0 : Nat → AV := fun _ => .any
theorem gl0n : ∀ i, nf (gl0 i) := fun _ => trivial
theorem mixed : Tryz.prog.follows .mixedOrders = true := rfl

abbrev l21_ReportTrials : Nat := 3
abbrev l21_behind : Nat := 4
abbrev l21_twin : Nat := 5
abbrev report_Trial : Nat := 6
abbrev r21_Trial : Nat := 7
abbrev l21_still : Nat := 8
abbrev r12_Check : Nat := 9
abbrev r15_Begin : Nat := 10
abbrev r15_Apply : Nat := 11
abbrev ledger_Total : Nat := 12
abbrev ledger_Trial : Nat := 13
abbrev r8_Total : Nat := 14
abbrev r8_Trial : Nat := 15
abbrev r12_may : Nat := 16
abbrev r15_opened : Nat := 17
abbrev r15_days : Nat := 18
abbrev r15_onLoan : Nat := 19
abbrev r15_refusal : Nat := 20
abbrev ledger_wide_plus : Nat := 21
abbrev ledger_wide_narrow : Nat := 22
abbrev ledger_wide_minus : Nat := 23
abbrev r1_Sum : Nat := 24
abbrev r12_in : Nat := 25
abbrev r12_holidays : Nat := 26
abbrev r15_place : Nat := 27
abbrev r14_Open : Nat := 28
abbrev r15_noticed : Nat := 29
abbrev r15_first : Nat := 30
abbrev r15_rolled : Nat := 31
abbrev r15_called : Nat := 32
abbrev r15_changed : Nat := 33
abbrev r15_numbers : Nat := 34
abbrev r1_high : Nat := 37
abbrev r1_lowOf : Nat := 38
abbrev r1_joined : Nat := 39
abbrev r14_begin : Nat := 40
abbrev r14_fail : Nat := 41
abbrev r14_wrong : Nat := 42
abbrev r3_Plan : Nat := 43
abbrev r13_Fresh : Nat := 44
abbrev r14_posted : Nat := 45
abbrev r14_move : Nat := 46
abbrev r14_done : Nat := 47
abbrev r14_Roll : Nat := 48
abbrev r14_Pay : Nat := 49
abbrev r14_Return : Nat := 50
abbrev r14_Refund : Nat := 51
abbrev r14_Waive : Nat := 52
abbrev r14_Promise : Nat := 53
abbrev r14_Restructure : Nat := 54
abbrev r8_Balance : Nat := 55
abbrev r14_copied : Nat := 56
abbrev r3_Valid : Nat := 57
abbrev r3_Level : Nat := 58
abbrev r3_month : Nat := 59
abbrev r3_part : Nat := 60
abbrev r3_Due : Nat := 61
abbrev r8_Post : Nat := 62
abbrev r14_accrued : Nat := 63
abbrev r14_over : Nat := 64
abbrev r14_played : Nat := 65
abbrev r14_days : Nat := 66
abbrev r14_charged : Nat := 67
abbrev r14_parted : Nat := 68
abbrev r9_Entries : Nat := 69
abbrev r14_settled : Nat := 70
abbrev r9_Undo : Nat := 71
abbrev r14_forgotten : Nat := 72
abbrev r14_noted : Nat := 73
abbrev r14_of : Nat := 74
abbrev r14_owed : Nat := 75
abbrev r14_sum : Nat := 76
abbrev r8_is : Nat := 77
abbrev r8_Debits : Nat := 78
abbrev r3_isRate : Nat := 79
abbrev r3_PaysOff : Nat := 80
abbrev r2_Civil : Nat := 81
abbrev r2_AddMonths : Nat := 82
abbrev r2_Adjust : Nat := 83
abbrev r8_refused : Nat := 84
abbrev r8_moves : Nat := 85
abbrev r8_OwnSide : Nat := 86
abbrev r3_Span : Nat := 87
abbrev r13_Step : Nat := 88
abbrev r14_acted : Nat := 89
abbrev r10_Days : Nat := 90
abbrev r14_Position : Nat := 91
abbrev r13_Open : Nat := 92
abbrev r10_Missed : Nat := 93
abbrev r12_Assess : Nat := 94
abbrev r10_Mark : Nat := 95
abbrev r9_Recover : Nat := 96
abbrev r9_Allocate : Nat := 97
abbrev r9_moves : Nat := 98
abbrev r2_isDay : Nat := 99
abbrev r2_yearLen : Nat := 100
abbrev r2_lenOf : Nat := 101
abbrev r2_Number : Nat := 102
abbrev r2_sought : Nat := 103
abbrev r13_numbers : Nat := 104
abbrev r13_standing : Nat := 105
abbrev r13_taken : Nat := 106
abbrev r14_pastDue : Nat := 107
abbrev r14_given : Nat := 108
abbrev r10_Oldest : Nat := 109
abbrev r10_late : Nat := 110
abbrev r10_rows : Nat := 111
abbrev r10_satisfied : Nat := 112
abbrev r12_good : Nat := 113
abbrev r12_LateFee : Nat := 114
abbrev r12_room : Nat := 115
abbrev r9_Turn : Nat := 116
abbrev r9_part : Nat := 117
abbrev r9_with : Nat := 118
abbrev r2_divides : Nat := 119
abbrev r2_MonthLen : Nat := 120
abbrev r2_Business : Nat := 121
abbrev r13_fits : Nat := 122
abbrev r13_age : Nat := 123
abbrev r13_paid : Nat := 124
abbrev r13_returned : Nat := 125
abbrev r13_ended : Nat := 126
abbrev r13_cure : Nat := 127
abbrev r10_PastDue : Nat := 128
abbrev r10_Sound : Nat := 129
abbrev r10_paid : Nat := 130
abbrev r1_Bps : Nat := 131
abbrev r9_wants : Nat := 132
abbrev r2_Weekday : Nat := 133
abbrev r13_back : Nat := 134
abbrev r13_quiet : Nat := 135
abbrev r13_cleared : Nat := 136
abbrev r10_before : Nat := 137
abbrev r10_amounts : Nat := 138
abbrev r1_MulDiv : Nat := 139
abbrev r1_size : Nat := 140
abbrev r1_over : Nat := 141
abbrev r1_times : Nat := 142
abbrev r1_digits : Nat := 143
abbrev r1_more : Nat := 144
abbrev r1_signed : Nat := 145
theorem fn_l21_ReportTrials : Tryz.prog.funcs[l21_ReportTrials]? = some Tryz.f3 := Tryz.func3
theorem nt_l21_ReportTrials : Tryz.f3.ntmps = 48 := Tryz.ntmps3
def ic_l21_ReportTrials : IC := (.seq (.ops [.o 2 (.box (.t 0)), .o 4 (.mv (.c (.bool false)))])
  (.seq (.ops [.o 13 (.ld true 18 (.t 2)), .o 14 (.mv (.t 1)), .o 15 (.call 4 [(.t 13), (.t 14), (.c (.int .i64 200))]), .o 5 (.alloc (.st (.cons (.val (.int .i64 0)) (.cons (.val (.slice none 0 0)) (.cons (.val (.slice none 0 0)) .nil))))), .n (.sto 3 (.t 5) (.t 15))])
  (.seq (.ops [.o 16 (.ld true 3 (.t 5)), .o 17 (.call 5 [(.t 16)]), .o 6 (.alloc (.st (.cons (.val (.int .i64 0)) (.cons (.val (.slice none 0 0)) (.cons (.val (.slice none 0 0)) .nil))))), .n (.sto 3 (.t 6) (.t 17))])
  (.seq (.ops [.o 19 (.ld true 3 (.t 6)), .o 20 (.call 6 [(.t 19)]), .o 18 (.mv (.t 20)), .o 21 (.ext 0 (.t 18)), .o 22 (.ext 1 (.t 18)), .o 23 (.ext 2 (.t 18)), .o 7 (.mv (.t 21)), .o 8 (.mv (.t 22)), .o 9 (.mv (.t 23))])
  (.seq (.ops [.o 25 (.ld true 3 (.t 5)), .o 26 (.call 7 [(.t 25)]), .o 24 (.mv (.t 26)), .o 27 (.ext 0 (.t 24)), .o 28 (.ext 1 (.t 24)), .o 29 (.ext 2 (.t 24)), .o 10 (.mv (.t 27)), .o 11 (.mv (.t 28)), .o 12 (.mv (.t 29))])
  (.seq (.ops [.o 30 (.mv (.t 7)), .o 31 (.mv (.t 10)), .o 32 (.bin .eql (.t 30) (.t 31)), .o 33 (.mv (.t 32)), .og 34 33 true (.mv (.t 8)), .og 35 33 true (.mv (.t 11)), .og 36 33 true (.bin .eql (.t 34) (.t 35)), .o 37 (.pick (.t 33) (.t 36) (.c (.bool false))), .o 38 (.mv (.t 37)), .og 39 38 true (.mv (.t 9)), .og 40 38 true (.mv (.t 12)), .og 41 38 true (.eqv false (.t 39) (.t 40)), .o 42 (.pick (.t 38) (.t 41) (.c (.bool false))), .o 43 (.mv (.t 42)), .og 44 43 true (.ld true 3 (.t 6)), .og 45 43 true (.ld true 3 (.t 5)), .og 46 43 true (.call 8 [(.t 44), (.t 45)]), .o 47 (.pick (.t 43) (.t 46) (.c (.bool false))), .o 4 (.mv (.t 47))])
  .ret))))))
theorem hc_l21_ReportTrials : compF Tryz.prog 48 Tryz.f3 = some (ic_l21_ReportTrials, [.t 4]) := by kernel_rfl

theorem fn_l21_behind : Tryz.prog.funcs[l21_behind]? = some Tryz.f4 := Tryz.func4
theorem nt_l21_behind : Tryz.f4.ntmps = 47 := Tryz.ntmps4
def ic_l21_behind : IC := (.seq (.ops [.o 3 (.box (.t 0)), .o 6 (.alloc (.st (.cons (.val (.int .i64 0)) (.cons (.val (.slice none 0 0)) (.cons (.val (.slice none 0 0)) .nil)))))])
  (.seq (.ops [.o 12 (.ld true 18 (.t 3)), .o 13 (.call 9 [(.t 12)]), .o 11 (.mv (.t 13)), .o 14 (.ext 0 (.t 11)), .o 15 (.ext 1 (.t 11)), .o 7 (.mv (.t 14)), .o 8 (.mv (.t 15))])
  (.seq (.seq (.ops [.o 16 (.mv (.t 7)), .o 17 (.bin .neq (.t 16) (.c (.int .i64 0)))])
  (.cond (.t 17)
  (.seq (.ops [.o 18 (.build (.st (.cons (.val (.int .i64 0)) (.cons (.val (.slice none 0 0)) (.cons (.val (.slice none 0 0)) .nil)))) []), .n (.sto 3 (.t 6) (.t 18))])
  .ret)
  .skip))
  (.seq (.ops [.o 19 (.ld true 18 (.t 3)), .o 20 (.call 10 [(.t 19)]), .o 9 (.alloc (.st (.cons (.val (.int .i64 0)) (.cons (.val (.slice none 0 0)) (.cons (.val (.slice none 0 0)) .nil))))), .n (.sto 3 (.t 9) (.t 20))])
  (.seq (.seq (.ops [.o 10 (.mv (.c (.int .i64 0)))])
  (.block 0 (.loop (.seq (.seq (.ops [.o 21 (.mv (.t 10)), .o 22 (.mv (.t 1)), .o 23 (.len (.t 22)), .o 24 (.bin .lss (.t 21) (.t 23)), .o 25 (.mv (.t 24)), .og 26 25 true (.mv (.t 10)), .og 27 25 true (.mv (.t 2)), .og 28 25 true (.bin .lss (.t 26) (.t 27)), .o 29 (.pick (.t 25) (.t 28) (.c (.bool false))), .o 30 (.mv (.t 29)), .og 31 30 true (.mv (.t 10)), .og 32 30 true (.bin .lss (.t 31) (.c (.int .i64 200))), .o 33 (.pick (.t 30) (.t 32) (.c (.bool false)))])
  (.cond (.t 33)
  .skip
  (.exit 0)))
  (.seq (.block 1 (.dops [.o 37 (.ld true 18 (.t 3)), .o 38 (.ld true 3 (.t 9)), .o 39 (.mv (.t 1)), .o 40 (.mv (.t 10)), .o 41 (.ixs 7 (.t 39) (.t 40)), .o 42 (.ld true 7 (.t 41)), .o 43 (.call 11 [(.t 37), (.t 38), (.t 42)]), .o 36 (.mv (.t 43)), .o 44 (.ext 0 (.t 36)), .o 45 (.ext 1 (.t 36)), .n (.sto 3 (.t 9) (.t 44))]))
  (.ops [.o 34 (.mv (.t 10)), .o 35 (.bin .add (.t 34) (.c (.int .i64 1))), .o 10 (.mv (.t 35))]))))))
  (.seq (.ops [.o 46 (.ld true 3 (.t 9)), .n (.sto 3 (.t 6) (.t 46))])
  .ret))))))
theorem hc_l21_behind : compF Tryz.prog 47 Tryz.f4 = some (ic_l21_behind, [.c 6 true 3]) := by kernel_rfl

theorem fn_l21_twin : Tryz.prog.funcs[l21_twin]? = some Tryz.f5 := Tryz.func5
theorem nt_l21_twin : Tryz.f5.ntmps = 37 := Tryz.ntmps5
def ic_l21_twin : IC := (.seq (.ops [.o 1 (.box (.t 0)), .o 2 (.alloc (.st (.cons (.val (.int .i64 0)) (.cons (.val (.slice none 0 0)) (.cons (.val (.slice none 0 0)) .nil)))))])
  (.seq (.ops [.o 3 (.mv (.c (.slice none 0 0)))])
  (.seq (.seq (.ops [.o 4 (.mv (.c (.int .i64 0)))])
  (.block 0 (.loop (.seq (.seq (.ops [.o 8 (.mv (.t 4)), .o 9 (.fa 1 1 (.t 1)), .o 10 (.ld false 1 (.t 9)), .o 11 (.len (.t 10)), .o 12 (.bin .lss (.t 8) (.t 11))])
  (.cond (.t 12)
  .skip
  (.exit 0)))
  (.seq (.block 1 (.seq (.ops [.o 15 (.fa 1 1 (.t 1)), .o 16 (.ld false 1 (.t 15)), .o 17 (.mv (.t 4)), .o 18 (.ixs 46 (.t 16) (.t 17)), .o 19 (.ld true 46 (.t 18)), .o 5 (.alloc (.st (.cons (.val (.int .i64 0)) (.cons (.st (.cons (.val (.int .i64 0)) (.cons (.val (.int .i64 0)) (.cons (.val (.int .i64 0)) (.cons (.val (.int .i64 0)) (.cons (.val (.int .i64 0)) (.cons (.val (.int .i64 0)) .nil))))))) (.cons (.val (.slice none 0 0)) (.cons (.st (.cons (.arr 12 1 fun _ => (.val (.int .i64 0))) .nil)) (.cons (.st (.cons (.val (.int .i64 0)) (.cons (.val (.bool false)) (.cons (.val (.int .i64 0)) (.cons (.val (.int .i64 0)) (.cons (.val (.int .i64 0)) (.cons (.val (.int .i64 0)) (.cons (.val (.int .i64 0)) (.cons (.val (.int .i64 0)) (.cons (.val (.int .i64 0)) (.cons (.val (.int .i64 0)) (.cons (.val (.int .i64 0)) (.cons (.val (.int .i64 0)) (.cons (.val (.int .i64 0)) (.cons (.val (.int .i64 0)) (.cons (.val (.int .i64 0)) .nil)))))))))))))))) (.cons (.val (.int .i64 0)) (.cons (.val (.int .i64 0)) (.cons (.val (.int .i64 0)) (.cons (.st (.cons (.val (.int .i64 0)) (.cons (.val (.int .i64 0)) (.cons (.val (.int .i64 0)) (.cons (.val (.int .i64 0)) (.cons (.val (.int .i64 0)) .nil)))))) (.cons (.val (.bool false)) (.cons (.val (.int .i64 0)) (.cons (.val (.int .i64 0)) .nil)))))))))))))), .n (.sto 46 (.t 5) (.t 19))])
  (.seq (.ops [.o 6 (.mv (.c (.slice none 0 0)))])
  (.seq (.ops [.o 20 (.mv (.t 6)), .o 21 (.fa 2 7 (.t 5)), .o 22 (.ld false 1 (.t 21)), .o 23 (.app 4 32 64 (.t 20) (.t 22)), .o 24 (.fa 2 7 (.t 5)), .n (.sto 1 (.t 24) (.t 23))])
  (.ops [.o 25 (.mv (.t 3)), .o 26 (.ld true 46 (.t 5)), .o 27 (.bsl 46 58 (.st (.cons (.val (.int .i64 0)) (.cons (.st (.cons (.val (.int .i64 0)) (.cons (.val (.int .i64 0)) (.cons (.val (.int .i64 0)) (.cons (.val (.int .i64 0)) (.cons (.val (.int .i64 0)) (.cons (.val (.int .i64 0)) .nil))))))) (.cons (.val (.slice none 0 0)) (.cons (.st (.cons (.arr 12 1 fun _ => (.val (.int .i64 0))) .nil)) (.cons (.st (.cons (.val (.int .i64 0)) (.cons (.val (.bool false)) (.cons (.val (.int .i64 0)) (.cons (.val (.int .i64 0)) (.cons (.val (.int .i64 0)) (.cons (.val (.int .i64 0)) (.cons (.val (.int .i64 0)) (.cons (.val (.int .i64 0)) (.cons (.val (.int .i64 0)) (.cons (.val (.int .i64 0)) (.cons (.val (.int .i64 0)) (.cons (.val (.int .i64 0)) (.cons (.val (.int .i64 0)) (.cons (.val (.int .i64 0)) (.cons (.val (.int .i64 0)) .nil)))))))))))))))) (.cons (.val (.int .i64 0)) (.cons (.val (.int .i64 0)) (.cons (.val (.int .i64 0)) (.cons (.st (.cons (.val (.int .i64 0)) (.cons (.val (.int .i64 0)) (.cons (.val (.int .i64 0)) (.cons (.val (.int .i64 0)) (.cons (.val (.int .i64 0)) .nil)))))) (.cons (.val (.bool false)) (.cons (.val (.int .i64 0)) (.cons (.val (.int .i64 0)) .nil))))))))))))) [(0, 0, 46, (.t 26))]), .o 28 (.app 46 384 58 (.t 25) (.t 27)), .o 3 (.mv (.t 28))])))))
  (.ops [.o 13 (.mv (.t 4)), .o 14 (.bin .add (.t 13) (.c (.int .i64 1))), .o 4 (.mv (.t 14))]))))))
  (.seq (.ops [.o 7 (.mv (.c (.slice none 0 0)))])
  (.seq (.ops [.o 29 (.mv (.t 3)), .o 30 (.fa 1 1 (.t 1)), .n (.sto 1 (.t 30) (.t 29))])
  (.seq (.ops [.o 31 (.mv (.t 7)), .o 32 (.fa 2 2 (.t 1)), .o 33 (.ld false 1 (.t 32)), .o 34 (.app 6 48 66 (.t 31) (.t 33)), .o 35 (.fa 2 2 (.t 1)), .n (.sto 1 (.t 35) (.t 34))])
  (.seq (.ops [.o 36 (.ld true 3 (.t 1)), .n (.sto 3 (.t 2) (.t 36))])
  .ret)))))))
theorem hc_l21_twin : compF Tryz.prog 37 Tryz.f5 = some (ic_l21_twin, [.c 2 true 3]) := by kernel_rfl

theorem fn_report_Trial : Tryz.prog.funcs[report_Trial]? = some Tryz.f6 := Tryz.func6
theorem nt_report_Trial : Tryz.f6.ntmps = 35 := Tryz.ntmps6
def ic_report_Trial : IC := (.seq (.ops [.o 1 (.box (.t 0)), .o 2 (.mv (.c (.int .i64 0))), .o 3 (.mv (.c (.int .i64 0))), .o 4 (.mv (.c (.bool false)))])
  (.seq (.ops [.o 5 (.mv (.c (.slice none 0 0)))])
  (.seq (.seq (.ops [.o 10 (.fa 1 1 (.t 1)), .o 11 (.ld false 1 (.t 10)), .o 12 (.len (.t 11)), .o 13 (.mv (.c (.int .i64 0)))])
  (.block 0 (.loop (.seq (.ops [.o 14 (.bin .lss (.t 13) (.t 12))])
  (.seq (.cond (.t 14)
  .skip
  (.exit 0))
  (.seq (.block 1 (.seq (.ops [.o 15 (.ixs 46 (.t 11) (.t 13)), .o 16 (.ld true 46 (.t 15)), .o 7 (.alloc (.st (.cons (.val (.int .i64 0)) (.cons (.st (.cons (.val (.int .i64 0)) (.cons (.val (.int .i64 0)) (.cons (.val (.int .i64 0)) (.cons (.val (.int .i64 0)) (.cons (.val (.int .i64 0)) (.cons (.val (.int .i64 0)) .nil))))))) (.cons (.val (.slice none 0 0)) (.cons (.st (.cons (.arr 12 1 fun _ => (.val (.int .i64 0))) .nil)) (.cons (.st (.cons (.val (.int .i64 0)) (.cons (.val (.bool false)) (.cons (.val (.int .i64 0)) (.cons (.val (.int .i64 0)) (.cons (.val (.int .i64 0)) (.cons (.val (.int .i64 0)) (.cons (.val (.int .i64 0)) (.cons (.val (.int .i64 0)) (.cons (.val (.int .i64 0)) (.cons (.val (.int .i64 0)) (.cons (.val (.int .i64 0)) (.cons (.val (.int .i64 0)) (.cons (.val (.int .i64 0)) (.cons (.val (.int .i64 0)) (.cons (.val (.int .i64 0)) .nil)))))))))))))))) (.cons (.val (.int .i64 0)) (.cons (.val (.int .i64 0)) (.cons (.val (.int .i64 0)) (.cons (.st (.cons (.val (.int .i64 0)) (.cons (.val (.int .i64 0)) (.cons (.val (.int .i64 0)) (.cons (.val (.int .i64 0)) (.cons (.val (.int .i64 0)) .nil)))))) (.cons (.val (.bool false)) (.cons (.val (.int .i64 0)) (.cons (.val (.int .i64 0)) .nil)))))))))))))), .n (.sto 46 (.t 7) (.t 16))])
  (.ops [.o 17 (.mv (.t 5)), .o 18 (.fa 3 8 (.t 7)), .o 19 (.ld true 12 (.t 18)), .o 20 (.bsl 12 52 (.st (.cons (.arr 12 1 fun _ => (.val (.int .i64 0))) .nil)) [(0, 0, 12, (.t 19))]), .o 21 (.app 12 96 52 (.t 17) (.t 20)), .o 5 (.mv (.t 21))])))
  (.ops [.o 22 (.bin .add (.t 13) (.c (.int .i64 1))), .o 13 (.mv (.t 22))])))))))
  (.seq (.ops [.o 24 (.mv (.t 5)), .o 25 (.call 12 [(.t 24)]), .o 23 (.mv (.t 25)), .o 26 (.ext 0 (.t 23)), .o 27 (.ext 1 (.t 23)), .o 8 (.alloc (.st (.cons (.arr 12 1 fun _ => (.val (.int .i64 0))) .nil))), .n (.sto 12 (.t 8) (.t 26)), .o 9 (.mv (.t 27))])
  (.seq (.seq (.ops [.o 28 (.mv (.t 9)), .o 29 (.un .not (.t 28))])
  (.cond (.t 29)
  (.seq (.ops [.o 2 (.mv (.c (.int .i64 0))), .o 3 (.mv (.c (.int .i64 0))), .o 4 (.mv (.c (.bool false)))])
  .ret)
  .skip))
  (.seq (.ops [.o 30 (.ld true 12 (.t 8)), .o 31 (.call 13 [(.t 30)]), .o 32 (.ext 0 (.t 31)), .o 33 (.ext 1 (.t 31)), .o 34 (.ext 2 (.t 31)), .o 2 (.mv (.t 32)), .o 3 (.mv (.t 33)), .o 4 (.mv (.t 34))])
  .ret))))))
theorem hc_report_Trial : compF Tryz.prog 35 Tryz.f6 = some (ic_report_Trial, [.t 2, .t 3, .t 4]) := by kernel_rfl

theorem fn_r21_Trial : Tryz.prog.funcs[r21_Trial]? = some Tryz.f7 := Tryz.func7
theorem nt_r21_Trial : Tryz.f7.ntmps = 37 := Tryz.ntmps7
def ic_r21_Trial : IC := (.seq (.ops [.o 1 (.box (.t 0)), .o 2 (.mv (.c (.int .i64 0))), .o 3 (.mv (.c (.int .i64 0))), .o 4 (.mv (.c (.bool false)))])
  (.seq (.ops [.o 5 (.mv (.c (.slice none 0 0)))])
  (.seq (.seq (.ops [.o 6 (.mv (.c (.int .i64 0)))])
  (.block 0 (.loop (.seq (.seq (.ops [.o 9 (.mv (.t 6)), .o 10 (.fa 1 1 (.t 1)), .o 11 (.ld false 1 (.t 10)), .o 12 (.len (.t 11)), .o 13 (.bin .lss (.t 9) (.t 12))])
  (.cond (.t 13)
  .skip
  (.exit 0)))
  (.seq (.block 1 (.ops [.o 16 (.mv (.t 5)), .o 17 (.fa 1 1 (.t 1)), .o 18 (.ld false 1 (.t 17)), .o 19 (.mv (.t 6)), .o 20 (.ixs 46 (.t 18) (.t 19)), .o 21 (.fa 3 8 (.t 20)), .o 22 (.ld true 12 (.t 21)), .o 23 (.bsl 12 52 (.st (.cons (.arr 12 1 fun _ => (.val (.int .i64 0))) .nil)) [(0, 0, 12, (.t 22))]), .o 24 (.app 12 96 52 (.t 16) (.t 23)), .o 5 (.mv (.t 24))]))
  (.ops [.o 14 (.mv (.t 6)), .o 15 (.bin .add (.t 14) (.c (.int .i64 1))), .o 6 (.mv (.t 15))]))))))
  (.seq (.ops [.o 26 (.mv (.t 5)), .o 27 (.call 14 [(.t 26)]), .o 25 (.mv (.t 27)), .o 28 (.ext 0 (.t 25)), .o 29 (.ext 1 (.t 25)), .o 7 (.alloc (.st (.cons (.arr 12 1 fun _ => (.val (.int .i64 0))) .nil))), .n (.sto 12 (.t 7) (.t 28)), .o 8 (.mv (.t 29))])
  (.seq (.seq (.ops [.o 30 (.mv (.t 8)), .o 31 (.un .not (.t 30))])
  (.cond (.t 31)
  (.seq (.ops [.o 2 (.mv (.c (.int .i64 0))), .o 3 (.mv (.c (.int .i64 0))), .o 4 (.mv (.c (.bool false)))])
  .ret)
  .skip))
  (.seq (.ops [.o 32 (.ld true 12 (.t 7)), .o 33 (.call 15 [(.t 32)]), .o 34 (.ext 0 (.t 33)), .o 35 (.ext 1 (.t 33)), .o 36 (.ext 2 (.t 33)), .o 2 (.mv (.t 34)), .o 3 (.mv (.t 35)), .o 4 (.mv (.t 36))])
  .ret))))))
theorem hc_r21_Trial : compF Tryz.prog 37 Tryz.f7 = some (ic_r21_Trial, [.t 2, .t 3, .t 4]) := by kernel_rfl

theorem fn_l21_still : Tryz.prog.funcs[l21_still]? = some Tryz.f8 := Tryz.func8
theorem nt_l21_still : Tryz.f8.ntmps = 168 := Tryz.ntmps8
def ic_l21_still : IC := (.seq (.ops [.o 2 (.box (.t 0)), .o 3 (.box (.t 1)), .o 4 (.mv (.c (.bool false)))])
  (.seq (.seq (.ops [.o 10 (.fa 0 0 (.t 2)), .o 11 (.ld false 1 (.t 10)), .o 12 (.fa 0 0 (.t 3)), .o 13 (.ld false 1 (.t 12)), .o 14 (.bin .neq (.t 11) (.t 13)), .o 15 (.mv (.t 14)), .og 16 15 false (.fa 1 1 (.t 2)), .og 17 15 false (.ld false 1 (.t 16)), .og 18 15 false (.len (.t 17)), .og 19 15 false (.fa 1 1 (.t 3)), .og 20 15 false (.ld false 1 (.t 19)), .og 21 15 false (.len (.t 20)), .og 22 15 false (.bin .neq (.t 18) (.t 21)), .o 23 (.pick (.t 15) (.c (.bool true)) (.t 22)), .o 24 (.mv (.t 23)), .og 25 24 false (.fa 2 2 (.t 2)), .og 26 24 false (.ld false 1 (.t 25)), .og 27 24 false (.len (.t 26)), .og 28 24 false (.fa 2 2 (.t 3)), .og 29 24 false (.ld false 1 (.t 28)), .og 30 24 false (.len (.t 29)), .og 31 24 false (.bin .neq (.t 27) (.t 30)), .o 32 (.pick (.t 24) (.c (.bool true)) (.t 31))])
  (.cond (.t 32)
  (.seq (.ops [.o 4 (.mv (.c (.bool false)))])
  .ret)
  .skip))
  (.seq (.seq (.ops [.o 5 (.mv (.c (.int .i64 0)))])
  (.block 0 (.loop (.seq (.seq (.ops [.o 33 (.mv (.t 5)), .o 34 (.fa 1 1 (.t 2)), .o 35 (.ld false 1 (.t 34)), .o 36 (.len (.t 35)), .o 37 (.bin .lss (.t 33) (.t 36))])
  (.cond (.t 37)
  .skip
  (.exit 0)))
  (.seq (.block 1 (.seq (.ops [.o 40 (.fa 1 1 (.t 2)), .o 41 (.ld false 1 (.t 40)), .o 42 (.mv (.t 5)), .o 43 (.ixs 46 (.t 41) (.t 42)), .o 44 (.ld true 46 (.t 43)), .o 6 (.alloc (.st (.cons (.val (.int .i64 0)) (.cons (.st (.cons (.val (.int .i64 0)) (.cons (.val (.int .i64 0)) (.cons (.val (.int .i64 0)) (.cons (.val (.int .i64 0)) (.cons (.val (.int .i64 0)) (.cons (.val (.int .i64 0)) .nil))))))) (.cons (.val (.slice none 0 0)) (.cons (.st (.cons (.arr 12 1 fun _ => (.val (.int .i64 0))) .nil)) (.cons (.st (.cons (.val (.int .i64 0)) (.cons (.val (.bool false)) (.cons (.val (.int .i64 0)) (.cons (.val (.int .i64 0)) (.cons (.val (.int .i64 0)) (.cons (.val (.int .i64 0)) (.cons (.val (.int .i64 0)) (.cons (.val (.int .i64 0)) (.cons (.val (.int .i64 0)) (.cons (.val (.int .i64 0)) (.cons (.val (.int .i64 0)) (.cons (.val (.int .i64 0)) (.cons (.val (.int .i64 0)) (.cons (.val (.int .i64 0)) (.cons (.val (.int .i64 0)) .nil)))))))))))))))) (.cons (.val (.int .i64 0)) (.cons (.val (.int .i64 0)) (.cons (.val (.int .i64 0)) (.cons (.st (.cons (.val (.int .i64 0)) (.cons (.val (.int .i64 0)) (.cons (.val (.int .i64 0)) (.cons (.val (.int .i64 0)) (.cons (.val (.int .i64 0)) .nil)))))) (.cons (.val (.bool false)) (.cons (.val (.int .i64 0)) (.cons (.val (.int .i64 0)) .nil)))))))))))))), .n (.sto 46 (.t 6) (.t 44))])
  (.seq (.ops [.o 45 (.fa 1 1 (.t 3)), .o 46 (.ld false 1 (.t 45)), .o 47 (.mv (.t 5)), .o 48 (.ixs 46 (.t 46) (.t 47)), .o 49 (.ld true 46 (.t 48)), .o 7 (.alloc (.st (.cons (.val (.int .i64 0)) (.cons (.st (.cons (.val (.int .i64 0)) (.cons (.val (.int .i64 0)) (.cons (.val (.int .i64 0)) (.cons (.val (.int .i64 0)) (.cons (.val (.int .i64 0)) (.cons (.val (.int .i64 0)) .nil))))))) (.cons (.val (.slice none 0 0)) (.cons (.st (.cons (.arr 12 1 fun _ => (.val (.int .i64 0))) .nil)) (.cons (.st (.cons (.val (.int .i64 0)) (.cons (.val (.bool false)) (.cons (.val (.int .i64 0)) (.cons (.val (.int .i64 0)) (.cons (.val (.int .i64 0)) (.cons (.val (.int .i64 0)) (.cons (.val (.int .i64 0)) (.cons (.val (.int .i64 0)) (.cons (.val (.int .i64 0)) (.cons (.val (.int .i64 0)) (.cons (.val (.int .i64 0)) (.cons (.val (.int .i64 0)) (.cons (.val (.int .i64 0)) (.cons (.val (.int .i64 0)) (.cons (.val (.int .i64 0)) .nil)))))))))))))))) (.cons (.val (.int .i64 0)) (.cons (.val (.int .i64 0)) (.cons (.val (.int .i64 0)) (.cons (.st (.cons (.val (.int .i64 0)) (.cons (.val (.int .i64 0)) (.cons (.val (.int .i64 0)) (.cons (.val (.int .i64 0)) (.cons (.val (.int .i64 0)) .nil)))))) (.cons (.val (.bool false)) (.cons (.val (.int .i64 0)) (.cons (.val (.int .i64 0)) .nil)))))))))))))), .n (.sto 46 (.t 7) (.t 49))])
  (.seq (.seq (.ops [.o 50 (.fa 0 0 (.t 6)), .o 51 (.ld false 1 (.t 50)), .o 52 (.fa 0 0 (.t 7)), .o 53 (.ld false 1 (.t 52)), .o 54 (.bin .neq (.t 51) (.t 53)), .o 55 (.mv (.t 54)), .og 56 55 false (.fa 1 1 (.t 6)), .og 57 55 false (.ld true 6 (.t 56)), .og 58 55 false (.fa 1 1 (.t 7)), .og 59 55 false (.ld true 6 (.t 58)), .og 60 55 false (.eqs true (.st (.cons .int (.cons .int (.cons .int (.cons .int (.cons .int (.cons .int .nil))))))) (.t 57) (.t 59)), .o 61 (.pick (.t 55) (.c (.bool true)) (.t 60)), .o 62 (.mv (.t 61)), .og 63 62 false (.fa 3 8 (.t 6)), .og 64 62 false (.ld true 12 (.t 63)), .og 65 62 false (.fa 3 8 (.t 7)), .og 66 62 false (.ld true 12 (.t 65)), .og 67 62 false (.eqs true (.st (.cons (.arr 12 1 .int) .nil)) (.t 64) (.t 66)), .o 68 (.pick (.t 62) (.c (.bool true)) (.t 67)), .o 69 (.mv (.t 68)), .og 70 69 false (.fa 4 20 (.t 6)), .og 71 69 false (.ld true 15 (.t 70)), .og 72 69 false (.fa 4 20 (.t 7)), .og 73 69 false (.ld true 15 (.t 72)), .og 74 69 false (.eqs true (.st (.cons .int (.cons .bool (.cons .int (.cons .int (.cons .int (.cons .int (.cons .int (.cons .int (.cons .int (.cons .int (.cons .int (.cons .int (.cons .int (.cons .int (.cons .int .nil)))))))))))))))) (.t 71) (.t 73)), .o 75 (.pick (.t 69) (.c (.bool true)) (.t 74)), .o 76 (.mv (.t 75)), .og 77 76 false (.fa 5 35 (.t 6)), .og 78 76 false (.ld false 1 (.t 77)), .og 79 76 false (.fa 5 35 (.t 7)), .og 80 76 false (.ld false 1 (.t 79)), .og 81 76 false (.bin .neq (.t 78) (.t 80)), .o 82 (.pick (.t 76) (.c (.bool true)) (.t 81)), .o 83 (.mv (.t 82)), .og 84 83 false (.fa 6 36 (.t 6)), .og 85 83 false (.ld false 1 (.t 84)), .og 86 83 false (.fa 6 36 (.t 7)), .og 87 83 false (.ld false 1 (.t 86)), .og 88 83 false (.bin .neq (.t 85) (.t 87)), .o 89 (.pick (.t 83) (.c (.bool true)) (.t 88)), .o 90 (.mv (.t 89)), .og 91 90 false (.fa 7 37 (.t 6)), .og 92 90 false (.ld false 1 (.t 91)), .og 93 90 false (.fa 7 37 (.t 7)), .og 94 90 false (.ld false 1 (.t 93)), .og 95 90 false (.bin .neq (.t 92) (.t 94)), .o 96 (.pick (.t 90) (.c (.bool true)) (.t 95)), .o 97 (.mv (.t 96)), .og 98 97 false (.fa 11 45 (.t 6)), .og 99 97 false (.ld false 1 (.t 98)), .og 100 97 false (.fa 11 45 (.t 7)), .og 101 97 false (.ld false 1 (.t 100)), .og 102 97 false (.bin .neq (.t 99) (.t 101)), .o 103 (.pick (.t 97) (.c (.bool true)) (.t 102))])
  (.cond (.t 103)
  (.seq (.ops [.o 4 (.mv (.c (.bool false)))])
  .ret)
  .skip))
  (.seq (.seq (.ops [.o 104 (.fa 8 38 (.t 6)), .o 105 (.ld true 5 (.t 104)), .o 106 (.fa 8 38 (.t 7)), .o 107 (.ld true 5 (.t 106)), .o 108 (.eqs true (.st (.cons .int (.cons .int (.cons .int (.cons .int (.cons .int .nil)))))) (.t 105) (.t 107)), .o 109 (.mv (.t 108)), .og 110 109 false (.fa 9 43 (.t 6)), .og 111 109 false (.ld false 1 (.t 110)), .og 112 109 false (.fa 9 43 (.t 7)), .og 113 109 false (.ld false 1 (.t 112)), .og 114 109 false (.eqv true (.t 111) (.t 113)), .o 115 (.pick (.t 109) (.c (.bool true)) (.t 114)), .o 116 (.mv (.t 115)), .og 117 116 false (.fa 10 44 (.t 6)), .og 118 116 false (.ld false 1 (.t 117)), .og 119 116 false (.fa 10 44 (.t 7)), .og 120 116 false (.ld false 1 (.t 119)), .og 121 116 false (.bin .neq (.t 118) (.t 120)), .o 122 (.pick (.t 116) (.c (.bool true)) (.t 121)), .o 123 (.mv (.t 122)), .og 124 123 false (.fa 2 7 (.t 6)), .og 125 123 false (.ld false 1 (.t 124)), .og 126 123 false (.len (.t 125)), .og 127 123 false (.fa 2 7 (.t 7)), .og 128 123 false (.ld false 1 (.t 127)), .og 129 123 false (.len (.t 128)), .og 130 123 false (.bin .neq (.t 126) (.t 129)), .o 131 (.pick (.t 123) (.c (.bool true)) (.t 130))])
  (.cond (.t 131)
  (.seq (.ops [.o 4 (.mv (.c (.bool false)))])
  .ret)
  .skip))
  (.seq (.ops [.o 8 (.mv (.c (.int .i64 0)))])
  (.block 2 (.loop (.seq (.seq (.ops [.o 132 (.mv (.t 8)), .o 133 (.fa 2 7 (.t 6)), .o 134 (.ld false 1 (.t 133)), .o 135 (.len (.t 134)), .o 136 (.bin .lss (.t 132) (.t 135))])
  (.cond (.t 136)
  .skip
  (.exit 2)))
  (.seq (.block 3 (.seq (.dops [.o 139 (.fa 2 7 (.t 6)), .o 140 (.ld false 1 (.t 139)), .o 141 (.mv (.t 8)), .o 142 (.ixs 4 (.t 140) (.t 141)), .o 143 (.ld true 4 (.t 142)), .o 144 (.fa 2 7 (.t 7)), .o 145 (.ld false 1 (.t 144)), .o 146 (.mv (.t 8)), .o 147 (.ixs 4 (.t 145) (.t 146)), .o 148 (.ld true 4 (.t 147)), .o 149 (.eqs true (.st (.cons .int (.cons .int (.cons .int (.cons .bool .nil))))) (.t 143) (.t 148))])
  (.cond (.t 149)
  (.seq (.ops [.o 4 (.mv (.c (.bool false)))])
  .ret)
  .skip)))
  (.ops [.o 137 (.mv (.t 8)), .o 138 (.bin .add (.t 137) (.c (.int .i64 1))), .o 8 (.mv (.t 138))])))))))))))
  (.ops [.o 38 (.mv (.t 5)), .o 39 (.bin .add (.t 38) (.c (.int .i64 1))), .o 5 (.mv (.t 39))]))))))
  (.seq (.seq (.ops [.o 9 (.mv (.c (.int .i64 0)))])
  (.block 4 (.loop (.seq (.seq (.ops [.o 150 (.mv (.t 9)), .o 151 (.fa 2 2 (.t 2)), .o 152 (.ld false 1 (.t 151)), .o 153 (.len (.t 152)), .o 154 (.bin .lss (.t 150) (.t 153))])
  (.cond (.t 154)
  .skip
  (.exit 4)))
  (.seq (.block 5 (.seq (.dops [.o 157 (.fa 2 2 (.t 2)), .o 158 (.ld false 1 (.t 157)), .o 159 (.mv (.t 9)), .o 160 (.ixs 6 (.t 158) (.t 159)), .o 161 (.ld true 6 (.t 160)), .o 162 (.fa 2 2 (.t 3)), .o 163 (.ld false 1 (.t 162)), .o 164 (.mv (.t 9)), .o 165 (.ixs 6 (.t 163) (.t 164)), .o 166 (.ld true 6 (.t 165)), .o 167 (.eqs true (.st (.cons .int (.cons .int (.cons .int (.cons .int (.cons .int (.cons .bool .nil))))))) (.t 161) (.t 166))])
  (.cond (.t 167)
  (.seq (.ops [.o 4 (.mv (.c (.bool false)))])
  .ret)
  .skip)))
  (.ops [.o 155 (.mv (.t 9)), .o 156 (.bin .add (.t 155) (.c (.int .i64 1))), .o 9 (.mv (.t 156))]))))))
  (.seq (.ops [.o 4 (.mv (.c (.bool true)))])
  .ret)))))
theorem hc_l21_still : compF Tryz.prog 168 Tryz.f8 = some (ic_l21_still, [.t 4]) := by kernel_rfl

theorem fn_r12_Check : Tryz.prog.funcs[r12_Check]? = some Tryz.f9 := Tryz.func9
theorem nt_r12_Check : Tryz.f9.ntmps = 14 := Tryz.ntmps9
def ic_r12_Check : IC := (.seq (.ops [.o 1 (.box (.t 0)), .o 2 (.mv (.c (.int .i64 0))), .o 3 (.mv (.c (.int .i64 0)))])
  (.seq (.seq (.ops [.o 4 (.mv (.c (.int .i64 1)))])
  (.block 0 (.loop (.seq (.seq (.ops [.o 5 (.mv (.t 4)), .o 6 (.bin .leq (.t 5) (.c (.int .i64 18)))])
  (.cond (.t 6)
  .skip
  (.exit 0)))
  (.seq (.block 1 (.seq (.ops [.o 9 (.ld true 18 (.t 1)), .o 10 (.mv (.t 4)), .o 11 (.call 16 [(.t 9), (.t 10)]), .o 12 (.un .not (.t 11))])
  (.cond (.t 12)
  (.seq (.ops [.o 13 (.mv (.t 4)), .o 2 (.mv (.c (.int .i64 120))), .o 3 (.mv (.t 13))])
  .ret)
  .skip)))
  (.ops [.o 7 (.mv (.t 4)), .o 8 (.bin .add (.t 7) (.c (.int .i64 1))), .o 4 (.mv (.t 8))]))))))
  (.seq (.ops [.o 2 (.mv (.c (.int .i64 0))), .o 3 (.mv (.c (.int .i64 0)))])
  .ret)))
theorem hc_r12_Check : compF Tryz.prog 14 Tryz.f9 = some (ic_r12_Check, [.t 2, .t 3]) := by kernel_rfl

theorem fn_r15_Begin : Tryz.prog.funcs[r15_Begin]? = some Tryz.f10 := Tryz.func10
theorem nt_r15_Begin : Tryz.f10.ntmps = 6 := Tryz.ntmps10
def ic_r15_Begin : IC := (.seq (.ops [.o 1 (.box (.t 0)), .o 2 (.alloc (.st (.cons (.val (.int .i64 0)) (.cons (.val (.slice none 0 0)) (.cons (.val (.slice none 0 0)) .nil)))))])
  (.seq (.ops [.o 3 (.fa 0 0 (.t 1)), .o 4 (.ld false 1 (.t 3)), .o 5 (.build (.st (.cons (.val (.int .i64 0)) (.cons (.val (.slice none 0 0)) (.cons (.val (.slice none 0 0)) .nil)))) [(0, 0, 1, (.t 4))]), .n (.sto 3 (.t 2) (.t 5))])
  .ret))
theorem hc_r15_Begin : compF Tryz.prog 6 Tryz.f10 = some (ic_r15_Begin, [.c 2 true 3]) := by kernel_rfl

theorem fn_r15_Apply : Tryz.prog.funcs[r15_Apply]? = some Tryz.f11 := Tryz.func11
theorem nt_r15_Apply : Tryz.f11.ntmps = 43 := Tryz.ntmps11
def ic_r15_Apply : IC := (.seq (.ops [.o 3 (.box (.t 0)), .o 4 (.box (.t 1)), .o 5 (.box (.t 2)), .o 6 (.alloc (.st (.cons (.val (.int .i64 0)) (.cons (.val (.slice none 0 0)) (.cons (.val (.slice none 0 0)) .nil))))), .o 7 (.alloc (.st (.cons (.val (.int .i64 0)) (.cons (.val (.slice none 0 0)) .nil))))])
  (.seq (.seq (.ops [.o 8 (.fa 0 0 (.t 5)), .o 9 (.ld false 1 (.t 8)), .o 10 (.bin .eql (.t 9) (.c (.int .i64 1)))])
  (.cond (.t 10)
  (.seq (.ops [.o 11 (.ld true 18 (.t 3)), .o 12 (.ld true 3 (.t 4)), .o 13 (.ld true 7 (.t 5)), .o 14 (.call 17 [(.t 11), (.t 12), (.t 13)]), .o 15 (.ext 0 (.t 14)), .o 16 (.ext 1 (.t 14)), .n (.sto 3 (.t 6) (.t 15)), .n (.sto 2 (.t 7) (.t 16))])
  .ret)
  .skip))
  (.seq (.seq (.ops [.o 17 (.fa 0 0 (.t 5)), .o 18 (.ld false 1 (.t 17)), .o 19 (.bin .eql (.t 18) (.c (.int .i64 8)))])
  (.cond (.t 19)
  (.seq (.ops [.o 20 (.ld true 18 (.t 3)), .o 21 (.ld true 3 (.t 4)), .o 22 (.fa 5 5 (.t 5)), .o 23 (.ld false 1 (.t 22)), .o 24 (.call 18 [(.t 20), (.t 21), (.t 23)]), .o 25 (.ext 0 (.t 24)), .o 26 (.ext 1 (.t 24)), .n (.sto 3 (.t 6) (.t 25)), .n (.sto 2 (.t 7) (.t 26))])
  .ret)
  .skip))
  (.seq (.seq (.ops [.o 27 (.fa 0 0 (.t 5)), .o 28 (.ld false 1 (.t 27)), .o 29 (.bin .geq (.t 28) (.c (.int .i64 2))), .o 30 (.mv (.t 29)), .og 31 30 true (.fa 0 0 (.t 5)), .og 32 30 true (.ld false 1 (.t 31)), .og 33 30 true (.bin .leq (.t 32) (.c (.int .i64 7))), .o 34 (.pick (.t 30) (.t 33) (.c (.bool false)))])
  (.cond (.t 34)
  (.seq (.ops [.o 35 (.ld true 18 (.t 3)), .o 36 (.ld true 3 (.t 4)), .o 37 (.ld true 7 (.t 5)), .o 38 (.call 19 [(.t 35), (.t 36), (.t 37)]), .o 39 (.ext 0 (.t 38)), .o 40 (.ext 1 (.t 38)), .n (.sto 3 (.t 6) (.t 39)), .n (.sto 2 (.t 7) (.t 40))])
  .ret)
  .skip))
  (.seq (.dops [.o 41 (.ld true 3 (.t 4)), .o 42 (.call 20 [(.c (.int .i64 153))]), .n (.sto 3 (.t 6) (.t 41)), .n (.sto 2 (.t 7) (.t 42))])
  .ret)))))
theorem hc_r15_Apply : compF Tryz.prog 43 Tryz.f11 = some (ic_r15_Apply, [.c 6 true 3, .c 7 true 2]) := by kernel_rfl

theorem fn_ledger_Total : Tryz.prog.funcs[ledger_Total]? = some Tryz.f12 := Tryz.func12
theorem nt_ledger_Total : Tryz.f12.ntmps = 41 := Tryz.ntmps12
def ic_ledger_Total : IC := (.seq (.ops [.o 2 (.alloc (.st (.cons (.arr 12 1 fun _ => (.val (.int .i64 0))) .nil))), .o 3 (.mv (.c (.bool false)))])
  (.seq (.ops [.o 4 (.alloc (.st (.cons (.arr 12 1 fun _ => (.val (.int .i64 0))) .nil)))])
  (.seq (.seq (.ops [.o 11 (.mv (.c (.int .i64 0)))])
  (.block 0 (.loop (.seq (.ops [.o 12 (.bin .lss (.t 11) (.c (.int .i64 12)))])
  (.seq (.cond (.t 12)
  .skip
  (.exit 0))
  (.seq (.block 1 (.seq (.ops [.o 13 (.mv (.t 11)), .o 5 (.mv (.t 13))])
  (.seq (.ops [.o 6 (.alloc (.st (.cons (.val (.int .i64 0)) (.cons (.val (.int .u64 0)) .nil))))])
  (.seq (.seq (.ops [.o 14 (.mv (.t 0)), .o 15 (.len (.t 14)), .o 16 (.mv (.c (.int .i64 0)))])
  (.block 2 (.loop (.seq (.ops [.o 17 (.bin .lss (.t 16) (.t 15))])
  (.seq (.cond (.t 17)
  .skip
  (.exit 2))
  (.seq (.block 3 (.seq (.ops [.o 18 (.ixs 12 (.t 14) (.t 16)), .o 19 (.ld true 12 (.t 18)), .o 8 (.alloc (.st (.cons (.arr 12 1 fun _ => (.val (.int .i64 0))) .nil))), .n (.sto 12 (.t 8) (.t 19))])
  (.dops [.o 20 (.ld true 2 (.t 6)), .o 21 (.mv (.t 5)), .o 22 (.fa 0 0 (.t 8)), .o 23 (.ixa 12 1 (.t 22) (.t 21)), .o 24 (.ld false 1 (.t 23)), .o 25 (.call 21 [(.t 20), (.t 24)]), .n (.sto 2 (.t 6) (.t 25))])))
  (.ops [.o 26 (.bin .add (.t 16) (.c (.int .i64 1))), .o 16 (.mv (.t 26))])))))))
  (.seq (.ops [.o 28 (.ld true 2 (.t 6)), .o 29 (.call 22 [(.t 28)]), .o 27 (.mv (.t 29)), .o 30 (.ext 0 (.t 27)), .o 31 (.ext 1 (.t 27)), .o 9 (.mv (.t 30)), .o 10 (.mv (.t 31))])
  (.seq (.seq (.ops [.o 32 (.mv (.t 10)), .o 33 (.un .not (.t 32))])
  (.cond (.t 33)
  (.seq (.ops [.o 34 (.build (.st (.cons (.arr 12 1 fun _ => (.val (.int .i64 0))) .nil)) []), .n (.sto 12 (.t 2) (.t 34)), .o 3 (.mv (.c (.bool false)))])
  .ret)
  .skip))
  (.ops [.o 35 (.mv (.t 5)), .o 36 (.mv (.t 9)), .o 37 (.fa 0 0 (.t 4)), .o 38 (.ixa 12 1 (.t 37) (.t 35)), .n (.sto 1 (.t 38) (.t 36))])))))))
  (.ops [.o 39 (.bin .add (.t 11) (.c (.int .i64 1))), .o 11 (.mv (.t 39))])))))))
  (.seq (.ops [.o 40 (.ld true 12 (.t 4)), .n (.sto 12 (.t 2) (.t 40)), .o 3 (.mv (.c (.bool true)))])
  .ret))))
theorem hc_ledger_Total : compF Tryz.prog 41 Tryz.f12 = some (ic_ledger_Total, [.c 2 true 12, .t 3]) := by kernel_rfl

theorem fn_ledger_Trial : Tryz.prog.funcs[ledger_Trial]? = some Tryz.f13 := Tryz.func13
theorem nt_ledger_Trial : Tryz.f13.ntmps = 45 := Tryz.ntmps13
def ic_ledger_Trial : IC := (.seq (.ops [.o 1 (.box (.t 0)), .o 2 (.mv (.c (.int .i64 0))), .o 3 (.mv (.c (.int .i64 0))), .o 4 (.mv (.c (.bool false)))])
  (.seq (.ops [.o 5 (.alloc (.st (.cons (.val (.int .i64 0)) (.cons (.val (.int .u64 0)) .nil)))), .o 6 (.alloc (.st (.cons (.val (.int .i64 0)) (.cons (.val (.int .u64 0)) .nil))))])
  (.seq (.seq (.ops [.o 13 (.fa 0 0 (.t 1)), .o 14 (.ld true 12 (.t 13)), .o 15 (.mv (.c (.int .i64 0)))])
  (.block 0 (.loop (.seq (.ops [.o 16 (.bin .lss (.t 15) (.c (.int .i64 12)))])
  (.seq (.cond (.t 16)
  .skip
  (.exit 0))
  (.seq (.block 1 (.seq (.ops [.o 17 (.ix false 12 1 (.t 14) (.t 15)), .o 8 (.mv (.t 17))])
  (.seq (.ops [.o 18 (.mv (.t 8)), .o 19 (.bin .gtr (.t 18) (.c (.int .i64 0)))])
  (.cond (.t 19)
  (.ops [.o 20 (.ld true 2 (.t 5)), .o 21 (.mv (.t 8)), .o 22 (.call 21 [(.t 20), (.t 21)]), .n (.sto 2 (.t 5) (.t 22))])
  (.ops [.o 23 (.ld true 2 (.t 6)), .o 24 (.mv (.t 8)), .o 25 (.call 23 [(.t 23), (.t 24)]), .n (.sto 2 (.t 6) (.t 25))])))))
  (.ops [.o 26 (.bin .add (.t 15) (.c (.int .i64 1))), .o 15 (.mv (.t 26))])))))))
  (.seq (.ops [.o 28 (.ld true 2 (.t 5)), .o 29 (.call 22 [(.t 28)]), .o 27 (.mv (.t 29)), .o 30 (.ext 0 (.t 27)), .o 31 (.ext 1 (.t 27)), .o 9 (.mv (.t 30)), .o 10 (.mv (.t 31))])
  (.seq (.ops [.o 33 (.ld true 2 (.t 6)), .o 34 (.call 22 [(.t 33)]), .o 32 (.mv (.t 34)), .o 35 (.ext 0 (.t 32)), .o 36 (.ext 1 (.t 32)), .o 11 (.mv (.t 35)), .o 12 (.mv (.t 36))])
  (.seq (.seq (.ops [.o 37 (.mv (.t 10)), .o 38 (.un .not (.t 37)), .o 39 (.mv (.t 38)), .og 40 39 false (.mv (.t 12)), .og 41 39 false (.un .not (.t 40)), .o 42 (.pick (.t 39) (.c (.bool true)) (.t 41))])
  (.cond (.t 42)
  (.seq (.ops [.o 2 (.mv (.c (.int .i64 0))), .o 3 (.mv (.c (.int .i64 0))), .o 4 (.mv (.c (.bool false)))])
  .ret)
  .skip))
  (.seq (.ops [.o 43 (.mv (.t 9)), .o 44 (.mv (.t 11)), .o 2 (.mv (.t 43)), .o 3 (.mv (.t 44)), .o 4 (.mv (.c (.bool true)))])
  .ret)))))))
theorem hc_ledger_Trial : compF Tryz.prog 45 Tryz.f13 = some (ic_ledger_Trial, [.t 2, .t 3, .t 4]) := by kernel_rfl

theorem fn_r8_Total : Tryz.prog.funcs[r8_Total]? = some Tryz.f14 := Tryz.func14
theorem nt_r8_Total : Tryz.f14.ntmps = 43 := Tryz.ntmps14
def ic_r8_Total : IC := (.seq (.ops [.o 2 (.alloc (.st (.cons (.arr 12 1 fun _ => (.val (.int .i64 0))) .nil))), .o 3 (.mv (.c (.bool false)))])
  (.seq (.ops [.o 4 (.alloc (.st (.cons (.arr 12 1 fun _ => (.val (.int .i64 0))) .nil)))])
  (.seq (.seq (.ops [.o 5 (.mv (.c (.int .i64 0)))])
  (.block 0 (.loop (.seq (.seq (.ops [.o 10 (.mv (.t 5)), .o 11 (.bin .lss (.t 10) (.c (.int .i64 12)))])
  (.cond (.t 11)
  .skip
  (.exit 0)))
  (.seq (.block 1 (.seq (.ops [.o 6 (.mv (.c (.slice none 0 0)))])
  (.seq (.seq (.ops [.o 7 (.mv (.c (.int .i64 0)))])
  (.block 2 (.loop (.seq (.seq (.ops [.o 14 (.mv (.t 7)), .o 15 (.mv (.t 0)), .o 16 (.len (.t 15)), .o 17 (.bin .lss (.t 14) (.t 16))])
  (.cond (.t 17)
  .skip
  (.exit 2)))
  (.seq (.block 3 (.ops [.o 20 (.mv (.t 6)), .o 21 (.mv (.t 0)), .o 22 (.mv (.t 7)), .o 23 (.mv (.t 5)), .o 24 (.ixs 12 (.t 21) (.t 22)), .o 25 (.fa 0 0 (.t 24)), .o 26 (.ixa 12 1 (.t 25) (.t 23)), .o 27 (.ld false 1 (.t 26)), .o 28 (.bsl 1 2 (.val (.int .i64 0)) [(0, 0, 1, (.t 27))]), .o 29 (.app 1 8 2 (.t 20) (.t 28)), .o 6 (.mv (.t 29))]))
  (.ops [.o 18 (.mv (.t 7)), .o 19 (.bin .add (.t 18) (.c (.int .i64 1))), .o 7 (.mv (.t 19))]))))))
  (.seq (.ops [.o 31 (.mv (.t 6)), .o 32 (.call 24 [(.t 31)]), .o 30 (.mv (.t 32)), .o 33 (.ext 0 (.t 30)), .o 34 (.ext 1 (.t 30)), .o 8 (.mv (.t 33)), .o 9 (.mv (.t 34))])
  (.seq (.seq (.ops [.o 35 (.mv (.t 9)), .o 36 (.un .not (.t 35))])
  (.cond (.t 36)
  (.seq (.ops [.o 37 (.build (.st (.cons (.arr 12 1 fun _ => (.val (.int .i64 0))) .nil)) []), .n (.sto 12 (.t 2) (.t 37)), .o 3 (.mv (.c (.bool false)))])
  .ret)
  .skip))
  (.ops [.o 38 (.mv (.t 5)), .o 39 (.mv (.t 8)), .o 40 (.fa 0 0 (.t 4)), .o 41 (.ixa 12 1 (.t 40) (.t 38)), .n (.sto 1 (.t 41) (.t 39))]))))))
  (.ops [.o 12 (.mv (.t 5)), .o 13 (.bin .add (.t 12) (.c (.int .i64 1))), .o 5 (.mv (.t 13))]))))))
  (.seq (.ops [.o 42 (.ld true 12 (.t 4)), .n (.sto 12 (.t 2) (.t 42)), .o 3 (.mv (.c (.bool true)))])
  .ret))))
theorem hc_r8_Total : compF Tryz.prog 43 Tryz.f14 = some (ic_r8_Total, [.c 2 true 12, .t 3]) := by kernel_rfl

theorem fn_r8_Trial : Tryz.prog.funcs[r8_Trial]? = some Tryz.f15 := Tryz.func15
theorem nt_r8_Trial : Tryz.f15.ntmps = 58 := Tryz.ntmps15
def ic_r8_Trial : IC := (.seq (.ops [.o 1 (.box (.t 0)), .o 2 (.mv (.c (.int .i64 0))), .o 3 (.mv (.c (.int .i64 0))), .o 4 (.mv (.c (.bool false)))])
  (.seq (.ops [.o 5 (.mv (.c (.slice none 0 0))), .o 6 (.mv (.c (.slice none 0 0)))])
  (.seq (.seq (.ops [.o 7 (.mv (.c (.int .i64 0)))])
  (.block 0 (.loop (.seq (.seq (.ops [.o 12 (.mv (.t 7)), .o 13 (.bin .lss (.t 12) (.c (.int .i64 12)))])
  (.cond (.t 13)
  .skip
  (.exit 0)))
  (.seq (.block 1 (.seq (.ops [.o 16 (.mv (.t 7)), .o 17 (.fa 0 0 (.t 1)), .o 18 (.ixa 12 1 (.t 17) (.t 16)), .o 19 (.ld false 1 (.t 18)), .o 20 (.bin .gtr (.t 19) (.c (.int .i64 0)))])
  (.cond (.t 20)
  (.ops [.o 21 (.mv (.t 5)), .o 22 (.mv (.t 7)), .o 23 (.fa 0 0 (.t 1)), .o 24 (.ixa 12 1 (.t 23) (.t 22)), .o 25 (.ld false 1 (.t 24)), .o 26 (.bsl 1 2 (.val (.int .i64 0)) [(0, 0, 1, (.t 25))]), .o 27 (.app 1 8 2 (.t 21) (.t 26)), .o 5 (.mv (.t 27))])
  (.ops [.o 28 (.mv (.t 6)), .o 29 (.mv (.t 7)), .o 30 (.fa 0 0 (.t 1)), .o 31 (.ixa 12 1 (.t 30) (.t 29)), .o 32 (.ld false 1 (.t 31)), .o 33 (.bsl 1 2 (.val (.int .i64 0)) [(0, 0, 1, (.t 32))]), .o 34 (.app 1 8 2 (.t 28) (.t 33)), .o 6 (.mv (.t 34))]))))
  (.ops [.o 14 (.mv (.t 7)), .o 15 (.bin .add (.t 14) (.c (.int .i64 1))), .o 7 (.mv (.t 15))]))))))
  (.seq (.ops [.o 36 (.mv (.t 5)), .o 37 (.call 24 [(.t 36)]), .o 35 (.mv (.t 37)), .o 38 (.ext 0 (.t 35)), .o 39 (.ext 1 (.t 35)), .o 8 (.mv (.t 38)), .o 9 (.mv (.t 39))])
  (.seq (.ops [.o 41 (.mv (.t 6)), .o 42 (.call 24 [(.t 41)]), .o 40 (.mv (.t 42)), .o 43 (.ext 0 (.t 40)), .o 44 (.ext 1 (.t 40)), .o 10 (.mv (.t 43)), .o 11 (.mv (.t 44))])
  (.seq (.seq (.ops [.o 45 (.mv (.t 9)), .o 46 (.un .not (.t 45)), .o 47 (.mv (.t 46)), .og 48 47 false (.mv (.t 11)), .og 49 47 false (.un .not (.t 48)), .o 50 (.pick (.t 47) (.c (.bool true)) (.t 49)), .o 51 (.mv (.t 50)), .og 52 51 false (.mv (.t 10)), .og 53 51 false (.bin .eql (.t 52) (.c (.int .i64 (-9223372036854775808)))), .o 54 (.pick (.t 51) (.c (.bool true)) (.t 53))])
  (.cond (.t 54)
  (.seq (.ops [.o 2 (.mv (.c (.int .i64 0))), .o 3 (.mv (.c (.int .i64 0))), .o 4 (.mv (.c (.bool false)))])
  .ret)
  .skip))
  (.seq (.ops [.o 55 (.mv (.t 8)), .o 56 (.mv (.t 10)), .o 57 (.un .neg (.t 56)), .o 2 (.mv (.t 55)), .o 3 (.mv (.t 57)), .o 4 (.mv (.c (.bool true)))])
  .ret)))))))
theorem hc_r8_Trial : compF Tryz.prog 58 Tryz.f15 = some (ic_r8_Trial, [.t 2, .t 3, .t 4]) := by kernel_rfl

theorem fn_r12_may : Tryz.prog.funcs[r12_may]? = some Tryz.f16 := Tryz.func16
theorem nt_r12_may : Tryz.f16.ntmps = 105 := Tryz.ntmps16
def ic_r12_may : IC := (.seq (.ops [.o 2 (.box (.t 0)), .o 4 (.mv (.c (.bool false)))])
  (.seq (.seq (.ops [.o 5 (.mv (.t 1))])
  (.block 0 (.seq (.ops [.o 7 (.bin .eql (.t 5) (.c (.int .i64 1))), .o 6 (.mv (.t 7))])
  (.cond (.t 6)
  (.seq (.ops [.o 8 (.fa 0 0 (.t 2)), .o 9 (.ld false 1 (.t 8)), .o 10 (.call 25 [(.t 9), (.c (.int .i64 1)), (.c (.int .i64 3652059))]), .o 4 (.mv (.t 10))])
  .ret)
  (.seq (.ops [.o 12 (.bin .eql (.t 5) (.c (.int .i64 2))), .o 11 (.mv (.t 12))])
  (.cond (.t 11)
  (.seq (.ops [.o 13 (.fa 1 1 (.t 2)), .o 14 (.ld false 1 (.t 13)), .o 15 (.call 25 [(.t 14), (.c (.int .i64 0)), (.c (.int .i64 30))]), .o 4 (.mv (.t 15))])
  .ret)
  (.seq (.ops [.o 17 (.bin .eql (.t 5) (.c (.int .i64 3))), .o 16 (.mv (.t 17))])
  (.cond (.t 16)
  (.seq (.ops [.o 18 (.fa 2 2 (.t 2)), .o 19 (.ld false 1 (.t 18)), .o 20 (.fa 1 1 (.t 2)), .o 21 (.ld false 1 (.t 20)), .o 22 (.bin .gtr (.t 19) (.t 21)), .o 23 (.mv (.t 22)), .og 24 23 true (.fa 2 2 (.t 2)), .og 25 23 true (.ld false 1 (.t 24)), .og 26 23 true (.bin .leq (.t 25) (.c (.int .i64 365))), .o 27 (.pick (.t 23) (.t 26) (.c (.bool false))), .o 4 (.mv (.t 27))])
  .ret)
  (.seq (.ops [.o 29 (.bin .eql (.t 5) (.c (.int .i64 4))), .o 28 (.mv (.t 29))])
  (.cond (.t 28)
  (.seq (.ops [.o 30 (.fa 3 3 (.t 2)), .o 31 (.ld false 1 (.t 30)), .o 32 (.call 25 [(.t 31), (.c (.int .i64 1)), (.c (.int .i64 365))]), .o 4 (.mv (.t 32))])
  .ret)
  (.seq (.ops [.o 34 (.bin .eql (.t 5) (.c (.int .i64 5))), .o 33 (.mv (.t 34))])
  (.cond (.t 33)
  (.seq (.ops [.o 35 (.fa 4 4 (.t 2)), .o 36 (.ld false 1 (.t 35)), .o 37 (.call 25 [(.t 36), (.c (.int .i64 0)), (.c (.int .i64 10000))]), .o 4 (.mv (.t 37))])
  .ret)
  (.seq (.ops [.o 39 (.bin .eql (.t 5) (.c (.int .i64 6))), .o 38 (.mv (.t 39))])
  (.cond (.t 38)
  (.seq (.ops [.o 40 (.fa 5 5 (.t 2)), .o 41 (.ld false 1 (.t 40)), .o 42 (.call 25 [(.t 41), (.c (.int .i64 0)), (.c (.int .i64 1000000000))]), .o 4 (.mv (.t 42))])
  .ret)
  (.seq (.ops [.o 44 (.bin .eql (.t 5) (.c (.int .i64 7))), .o 43 (.mv (.t 44))])
  (.cond (.t 43)
  (.seq (.ops [.o 45 (.fa 6 6 (.t 2)), .o 46 (.ld false 1 (.t 45)), .o 47 (.fa 5 5 (.t 2)), .o 48 (.ld false 1 (.t 47)), .o 49 (.call 25 [(.t 46), (.t 48), (.c (.int .i64 1000000000))]), .o 4 (.mv (.t 49))])
  .ret)
  (.seq (.ops [.o 51 (.bin .eql (.t 5) (.c (.int .i64 8))), .o 50 (.mv (.t 51))])
  (.cond (.t 50)
  (.seq (.ops [.o 52 (.fa 7 7 (.t 2)), .o 53 (.ld false 1 (.t 52)), .o 54 (.call 25 [(.t 53), (.c (.int .i64 0)), (.c (.int .i64 1000000000))]), .o 4 (.mv (.t 54))])
  .ret)
  (.seq (.ops [.o 56 (.bin .eql (.t 5) (.c (.int .i64 9))), .o 55 (.mv (.t 56))])
  (.cond (.t 55)
  (.seq (.ops [.o 57 (.fa 8 8 (.t 2)), .o 58 (.ld false 1 (.t 57)), .o 59 (.call 25 [(.t 58), (.c (.int .i64 0)), (.c (.int .i64 1000000000))]), .o 4 (.mv (.t 59))])
  .ret)
  (.seq (.ops [.o 61 (.bin .eql (.t 5) (.c (.int .i64 10))), .o 60 (.mv (.t 61))])
  (.cond (.t 60)
  (.seq (.ops [.o 62 (.fa 9 9 (.t 2)), .o 63 (.ld false 1 (.t 62)), .o 64 (.call 25 [(.t 63), (.c (.int .i64 0)), (.c (.int .i64 8))]), .o 4 (.mv (.t 64))])
  .ret)
  (.seq (.ops [.o 66 (.bin .eql (.t 5) (.c (.int .i64 11))), .o 65 (.mv (.t 66))])
  (.cond (.t 65)
  (.seq (.ops [.o 67 (.fa 10 10 (.t 2)), .o 68 (.ld false 1 (.t 67)), .o 69 (.call 25 [(.t 68), (.c (.int .i64 1)), (.c (.int .i64 60))]), .o 4 (.mv (.t 69))])
  .ret)
  (.seq (.ops [.o 71 (.bin .eql (.t 5) (.c (.int .i64 12))), .o 70 (.mv (.t 71))])
  (.cond (.t 70)
  (.seq (.ops [.o 72 (.fa 11 11 (.t 2)), .o 73 (.ld false 1 (.t 72)), .o 74 (.call 25 [(.t 73), (.c (.int .i64 0)), (.c (.int .i64 4))]), .o 4 (.mv (.t 74))])
  .ret)
  (.seq (.ops [.o 76 (.bin .eql (.t 5) (.c (.int .i64 13))), .o 75 (.mv (.t 76))])
  (.cond (.t 75)
  (.seq (.ops [.o 77 (.fa 12 12 (.t 2)), .o 78 (.ld false 1 (.t 77)), .o 79 (.call 25 [(.t 78), (.c (.int .i64 0)), (.c (.int .i64 5))]), .o 4 (.mv (.t 79))])
  .ret)
  (.seq (.ops [.o 81 (.bin .eql (.t 5) (.c (.int .i64 14))), .o 80 (.mv (.t 81))])
  (.cond (.t 80)
  (.seq (.ops [.o 82 (.fa 13 13 (.t 2)), .o 83 (.ld false 1 (.t 82)), .o 84 (.call 25 [(.t 83), (.c (.int .i64 0)), (.c (.int .i64 3))]), .o 4 (.mv (.t 84))])
  .ret)
  (.seq (.ops [.o 86 (.bin .eql (.t 5) (.c (.int .i64 15))), .o 85 (.mv (.t 86))])
  (.cond (.t 85)
  (.seq (.ops [.o 87 (.fa 14 14 (.t 2)), .o 88 (.ld false 1 (.t 87)), .o 89 (.call 25 [(.t 88), (.c (.int .i64 1)), (.c (.int .i64 64))]), .o 4 (.mv (.t 89))])
  .ret)
  (.seq (.ops [.o 91 (.bin .eql (.t 5) (.c (.int .i64 16))), .o 90 (.mv (.t 91))])
  (.cond (.t 90)
  (.seq (.ops [.o 92 (.fa 15 15 (.t 2)), .o 93 (.ld false 1 (.t 92)), .o 94 (.fa 14 14 (.t 2)), .o 95 (.ld false 1 (.t 94)), .o 96 (.call 25 [(.t 93), (.t 95), (.c (.int .i64 64))]), .o 4 (.mv (.t 96))])
  .ret)
  (.seq (.ops [.o 98 (.bin .eql (.t 5) (.c (.int .i64 17))), .o 97 (.mv (.t 98))])
  (.cond (.t 97)
  (.seq (.ops [.o 99 (.fa 16 16 (.t 2)), .o 100 (.ld false 1 (.t 99)), .o 101 (.call 25 [(.t 100), (.c (.int .i64 0)), (.c (.int .i64 1000))]), .o 4 (.mv (.t 101))])
  .ret)
  .skip))))))))))))))))))))))))))))))))))))
  (.seq (.ops [.o 102 (.fa 17 17 (.t 2)), .o 103 (.ld false 1 (.t 102)), .o 104 (.call 26 [(.t 103)]), .o 4 (.mv (.t 104))])
  .ret)))
theorem hc_r12_may : compF Tryz.prog 105 Tryz.f16 = some (ic_r12_may, [.t 4]) := by kernel_rfl

theorem fn_r15_opened : Tryz.prog.funcs[r15_opened]? = some Tryz.f17 := Tryz.func17
theorem nt_r15_opened : Tryz.f17.ntmps = 122 := Tryz.ntmps17
def ic_r15_opened : IC := (.seq (.ops [.o 3 (.box (.t 0)), .o 4 (.box (.t 1)), .o 5 (.box (.t 2)), .o 6 (.alloc (.st (.cons (.val (.int .i64 0)) (.cons (.val (.slice none 0 0)) (.cons (.val (.slice none 0 0)) .nil))))), .o 7 (.alloc (.st (.cons (.val (.int .i64 0)) (.cons (.val (.slice none 0 0)) .nil))))])
  (.seq (.seq (.ops [.o 12 (.fa 1 1 (.t 5)), .o 13 (.ld false 1 (.t 12)), .o 14 (.bin .lss (.t 13) (.c (.int .i64 1))), .o 15 (.mv (.t 14)), .og 16 15 false (.fa 1 1 (.t 5)), .og 17 15 false (.ld false 1 (.t 16)), .og 18 15 false (.bin .gtr (.t 17) (.c (.int .i64 999999))), .o 19 (.pick (.t 15) (.c (.bool true)) (.t 18))])
  (.cond (.t 19)
  (.seq (.dops [.o 20 (.ld true 3 (.t 4)), .o 21 (.call 20 [(.c (.int .i64 2))]), .n (.sto 3 (.t 6) (.t 20)), .n (.sto 2 (.t 7) (.t 21))])
  .ret)
  .skip))
  (.seq (.seq (.ops [.o 22 (.ld true 3 (.t 4)), .o 23 (.fa 1 1 (.t 5)), .o 24 (.ld false 1 (.t 23)), .o 25 (.call 27 [(.t 22), (.t 24)]), .o 26 (.bin .geq (.t 25) (.c (.int .i64 0)))])
  (.cond (.t 26)
  (.seq (.dops [.o 27 (.ld true 3 (.t 4)), .o 28 (.call 20 [(.c (.int .i64 151))]), .n (.sto 3 (.t 6) (.t 27)), .n (.sto 2 (.t 7) (.t 28))])
  .ret)
  .skip))
  (.seq (.seq (.ops [.o 29 (.fa 1 1 (.t 4)), .o 30 (.ld false 1 (.t 29)), .o 31 (.len (.t 30)), .o 32 (.bin .geq (.t 31) (.c (.int .i64 32)))])
  (.cond (.t 32)
  (.seq (.dops [.o 33 (.ld true 3 (.t 4)), .o 34 (.call 20 [(.c (.int .i64 152))]), .n (.sto 3 (.t 6) (.t 33)), .n (.sto 2 (.t 7) (.t 34))])
  .ret)
  .skip))
  (.seq (.ops [.o 35 (.ld true 18 (.t 3)), .o 36 (.fa 1 1 (.t 5)), .o 37 (.ld false 1 (.t 36)), .o 38 (.fa 5 5 (.t 5)), .o 39 (.ld false 1 (.t 38)), .o 40 (.fa 2 2 (.t 5)), .o 41 (.ld false 1 (.t 40)), .o 42 (.fa 3 3 (.t 5)), .o 43 (.ld false 1 (.t 42)), .o 44 (.fa 4 4 (.t 5)), .o 45 (.ld false 1 (.t 44)), .o 46 (.fa 0 0 (.t 4)), .o 47 (.ld false 1 (.t 46)), .o 48 (.fa 13 13 (.t 3)), .o 49 (.ld false 1 (.t 48)), .o 50 (.build (.st (.cons (.val (.int .i64 0)) (.cons (.val (.int .i64 0)) (.cons (.val (.int .i64 0)) (.cons (.val (.int .i64 0)) (.cons (.val (.int .i64 0)) (.cons (.val (.int .i64 0)) .nil))))))) [(0, 0, 1, (.t 39)), (1, 1, 1, (.t 41)), (2, 2, 1, (.t 43)), (3, 3, 1, (.t 45)), (4, 4, 1, (.t 47)), (5, 5, 1, (.t 49))]), .o 51 (.call 28 [(.t 35), (.t 37), (.t 50)]), .o 8 (.alloc (.st (.cons (.st (.cons (.val (.int .i64 0)) (.cons (.st (.cons (.val (.int .i64 0)) (.cons (.val (.int .i64 0)) (.cons (.val (.int .i64 0)) (.cons (.val (.int .i64 0)) (.cons (.val (.int .i64 0)) (.cons (.val (.int .i64 0)) .nil))))))) (.cons (.val (.slice none 0 0)) (.cons (.st (.cons (.arr 12 1 fun _ => (.val (.int .i64 0))) .nil)) (.cons (.st (.cons (.val (.int .i64 0)) (.cons (.val (.bool false)) (.cons (.val (.int .i64 0)) (.cons (.val (.int .i64 0)) (.cons (.val (.int .i64 0)) (.cons (.val (.int .i64 0)) (.cons (.val (.int .i64 0)) (.cons (.val (.int .i64 0)) (.cons (.val (.int .i64 0)) (.cons (.val (.int .i64 0)) (.cons (.val (.int .i64 0)) (.cons (.val (.int .i64 0)) (.cons (.val (.int .i64 0)) (.cons (.val (.int .i64 0)) (.cons (.val (.int .i64 0)) .nil)))))))))))))))) (.cons (.val (.int .i64 0)) (.cons (.val (.int .i64 0)) (.cons (.val (.int .i64 0)) (.cons (.st (.cons (.val (.int .i64 0)) (.cons (.val (.int .i64 0)) (.cons (.val (.int .i64 0)) (.cons (.val (.int .i64 0)) (.cons (.val (.int .i64 0)) .nil)))))) (.cons (.val (.bool false)) (.cons (.val (.int .i64 0)) (.cons (.val (.int .i64 0)) .nil))))))))))))) (.cons (.st (.cons (.val (.int .i64 0)) (.cons (.val (.int .i64 0)) (.cons (.val (.int .i64 0)) (.cons (.val (.int .i64 0)) (.cons (.val (.int .i64 0)) .nil)))))) (.cons (.val (.slice none 0 0)) (.cons (.val (.int .i64 0)) .nil)))))), .n (.sto 53 (.t 8) (.t 51))])
  (.seq (.seq (.ops [.o 52 (.fa 3 52 (.t 8)), .o 53 (.ld false 1 (.t 52)), .o 54 (.bin .neq (.t 53) (.c (.int .i64 0)))])
  (.cond (.t 54)
  (.seq (.dopss [(.o 55 (.ld true 3 (.t 4)), []), (.o 56 (.fa 3 52 (.t 8)), []), (.o 57 (.ld false 1 (.t 56)), [6]), (.o 58 (.build (.st (.cons (.val (.int .i64 0)) (.cons (.val (.slice none 0 0)) .nil))) [(0, 0, 1, (.t 57))]), []), (.n (.sto 3 (.t 6) (.t 55)), []), (.n (.sto 2 (.t 7) (.t 58)), [])])
  .ret)
  .skip))
  (.seq (.ops [.o 9 (.mv (.c (.slice none 0 0)))])
  (.seq (.seq (.ops [.o 10 (.mv (.c (.int .i64 0)))])
  (.block 0 (.loop (.seq (.seq (.ops [.o 59 (.mv (.t 10)), .o 60 (.fa 1 1 (.t 4)), .o 61 (.ld false 1 (.t 60)), .o 62 (.len (.t 61)), .o 63 (.bin .lss (.t 59) (.t 62))])
  (.cond (.t 63)
  .skip
  (.exit 0)))
  (.seq (.block 1 (.seq (.dops [.o 66 (.fa 1 1 (.t 4)), .o 67 (.ld false 1 (.t 66)), .o 68 (.mv (.t 10)), .o 69 (.ixs 46 (.t 67) (.t 68)), .o 70 (.fa 0 0 (.t 69)), .o 71 (.ld false 1 (.t 70)), .o 72 (.fa 1 1 (.t 5)), .o 73 (.ld false 1 (.t 72)), .o 74 (.bin .lss (.t 71) (.t 73))])
  (.cond (.t 74)
  (.ops [.o 75 (.mv (.t 9)), .o 76 (.fa 1 1 (.t 4)), .o 77 (.ld false 1 (.t 76)), .o 78 (.mv (.t 10)), .o 79 (.ixs 46 (.t 77) (.t 78)), .o 80 (.ld true 46 (.t 79)), .o 81 (.bsl 46 58 (.st (.cons (.val (.int .i64 0)) (.cons (.st (.cons (.val (.int .i64 0)) (.cons (.val (.int .i64 0)) (.cons (.val (.int .i64 0)) (.cons (.val (.int .i64 0)) (.cons (.val (.int .i64 0)) (.cons (.val (.int .i64 0)) .nil))))))) (.cons (.val (.slice none 0 0)) (.cons (.st (.cons (.arr 12 1 fun _ => (.val (.int .i64 0))) .nil)) (.cons (.st (.cons (.val (.int .i64 0)) (.cons (.val (.bool false)) (.cons (.val (.int .i64 0)) (.cons (.val (.int .i64 0)) (.cons (.val (.int .i64 0)) (.cons (.val (.int .i64 0)) (.cons (.val (.int .i64 0)) (.cons (.val (.int .i64 0)) (.cons (.val (.int .i64 0)) (.cons (.val (.int .i64 0)) (.cons (.val (.int .i64 0)) (.cons (.val (.int .i64 0)) (.cons (.val (.int .i64 0)) (.cons (.val (.int .i64 0)) (.cons (.val (.int .i64 0)) .nil)))))))))))))))) (.cons (.val (.int .i64 0)) (.cons (.val (.int .i64 0)) (.cons (.val (.int .i64 0)) (.cons (.st (.cons (.val (.int .i64 0)) (.cons (.val (.int .i64 0)) (.cons (.val (.int .i64 0)) (.cons (.val (.int .i64 0)) (.cons (.val (.int .i64 0)) .nil)))))) (.cons (.val (.bool false)) (.cons (.val (.int .i64 0)) (.cons (.val (.int .i64 0)) .nil))))))))))))) [(0, 0, 46, (.t 80))]), .o 82 (.app 46 384 58 (.t 75) (.t 81)), .o 9 (.mv (.t 82))])
  .skip)))
  (.ops [.o 64 (.mv (.t 10)), .o 65 (.bin .add (.t 64) (.c (.int .i64 1))), .o 10 (.mv (.t 65))]))))))
  (.seq (.ops [.o 83 (.mv (.t 9)), .o 84 (.fa 0 0 (.t 8)), .o 85 (.ld true 46 (.t 84)), .o 86 (.bsl 46 58 (.st (.cons (.val (.int .i64 0)) (.cons (.st (.cons (.val (.int .i64 0)) (.cons (.val (.int .i64 0)) (.cons (.val (.int .i64 0)) (.cons (.val (.int .i64 0)) (.cons (.val (.int .i64 0)) (.cons (.val (.int .i64 0)) .nil))))))) (.cons (.val (.slice none 0 0)) (.cons (.st (.cons (.arr 12 1 fun _ => (.val (.int .i64 0))) .nil)) (.cons (.st (.cons (.val (.int .i64 0)) (.cons (.val (.bool false)) (.cons (.val (.int .i64 0)) (.cons (.val (.int .i64 0)) (.cons (.val (.int .i64 0)) (.cons (.val (.int .i64 0)) (.cons (.val (.int .i64 0)) (.cons (.val (.int .i64 0)) (.cons (.val (.int .i64 0)) (.cons (.val (.int .i64 0)) (.cons (.val (.int .i64 0)) (.cons (.val (.int .i64 0)) (.cons (.val (.int .i64 0)) (.cons (.val (.int .i64 0)) (.cons (.val (.int .i64 0)) .nil)))))))))))))))) (.cons (.val (.int .i64 0)) (.cons (.val (.int .i64 0)) (.cons (.val (.int .i64 0)) (.cons (.st (.cons (.val (.int .i64 0)) (.cons (.val (.int .i64 0)) (.cons (.val (.int .i64 0)) (.cons (.val (.int .i64 0)) (.cons (.val (.int .i64 0)) .nil)))))) (.cons (.val (.bool false)) (.cons (.val (.int .i64 0)) (.cons (.val (.int .i64 0)) .nil))))))))))))) [(0, 0, 46, (.t 85))]), .o 87 (.app 46 384 58 (.t 83) (.t 86)), .o 9 (.mv (.t 87))])
  (.seq (.seq (.ops [.o 11 (.mv (.c (.int .i64 0)))])
  (.block 2 (.loop (.seq (.seq (.ops [.o 88 (.mv (.t 11)), .o 89 (.fa 1 1 (.t 4)), .o 90 (.ld false 1 (.t 89)), .o 91 (.len (.t 90)), .o 92 (.bin .lss (.t 88) (.t 91))])
  (.cond (.t 92)
  .skip
  (.exit 2)))
  (.seq (.block 3 (.seq (.dops [.o 95 (.fa 1 1 (.t 4)), .o 96 (.ld false 1 (.t 95)), .o 97 (.mv (.t 11)), .o 98 (.ixs 46 (.t 96) (.t 97)), .o 99 (.fa 0 0 (.t 98)), .o 100 (.ld false 1 (.t 99)), .o 101 (.fa 1 1 (.t 5)), .o 102 (.ld false 1 (.t 101)), .o 103 (.bin .gtr (.t 100) (.t 102))])
  (.cond (.t 103)
  (.ops [.o 104 (.mv (.t 9)), .o 105 (.fa 1 1 (.t 4)), .o 106 (.ld false 1 (.t 105)), .o 107 (.mv (.t 11)), .o 108 (.ixs 46 (.t 106) (.t 107)), .o 109 (.ld true 46 (.t 108)), .o 110 (.bsl 46 58 (.st (.cons (.val (.int .i64 0)) (.cons (.st (.cons (.val (.int .i64 0)) (.cons (.val (.int .i64 0)) (.cons (.val (.int .i64 0)) (.cons (.val (.int .i64 0)) (.cons (.val (.int .i64 0)) (.cons (.val (.int .i64 0)) .nil))))))) (.cons (.val (.slice none 0 0)) (.cons (.st (.cons (.arr 12 1 fun _ => (.val (.int .i64 0))) .nil)) (.cons (.st (.cons (.val (.int .i64 0)) (.cons (.val (.bool false)) (.cons (.val (.int .i64 0)) (.cons (.val (.int .i64 0)) (.cons (.val (.int .i64 0)) (.cons (.val (.int .i64 0)) (.cons (.val (.int .i64 0)) (.cons (.val (.int .i64 0)) (.cons (.val (.int .i64 0)) (.cons (.val (.int .i64 0)) (.cons (.val (.int .i64 0)) (.cons (.val (.int .i64 0)) (.cons (.val (.int .i64 0)) (.cons (.val (.int .i64 0)) (.cons (.val (.int .i64 0)) .nil)))))))))))))))) (.cons (.val (.int .i64 0)) (.cons (.val (.int .i64 0)) (.cons (.val (.int .i64 0)) (.cons (.st (.cons (.val (.int .i64 0)) (.cons (.val (.int .i64 0)) (.cons (.val (.int .i64 0)) (.cons (.val (.int .i64 0)) (.cons (.val (.int .i64 0)) .nil)))))) (.cons (.val (.bool false)) (.cons (.val (.int .i64 0)) (.cons (.val (.int .i64 0)) .nil))))))))))))) [(0, 0, 46, (.t 109))]), .o 111 (.app 46 384 58 (.t 104) (.t 110)), .o 9 (.mv (.t 111))])
  .skip)))
  (.ops [.o 93 (.mv (.t 11)), .o 94 (.bin .add (.t 93) (.c (.int .i64 1))), .o 11 (.mv (.t 94))]))))))
  (.seq (.ops [.o 112 (.mv (.t 9)), .o 113 (.fa 1 1 (.t 4)), .n (.sto 1 (.t 113) (.t 112))])
  (.seq (.dops [.o 114 (.ld true 3 (.t 4)), .o 115 (.fa 2 51 (.t 8)), .o 116 (.ld false 1 (.t 115)), .o 117 (.call 29 [(.t 114), (.t 116)]), .o 118 (.fa 0 0 (.t 8)), .o 119 (.ld true 46 (.t 118)), .o 120 (.call 30 [(.t 119)]), .o 121 (.build (.st (.cons (.val (.int .i64 0)) (.cons (.val (.slice none 0 0)) .nil))) [(1, 1, 1, (.t 120))]), .n (.sto 3 (.t 6) (.t 117)), .n (.sto 2 (.t 7) (.t 121))])
  .ret))))))))))))
theorem hc_r15_opened : compF Tryz.prog 122 Tryz.f17 = some (ic_r15_opened, [.c 6 true 3, .c 7 true 2]) := by kernel_rfl

theorem fn_r15_days : Tryz.prog.funcs[r15_days]? = some Tryz.f18 := Tryz.func18
theorem nt_r15_days : Tryz.f18.ntmps = 61 := Tryz.ntmps18
def ic_r15_days : IC := (.seq (.ops [.o 3 (.box (.t 0)), .o 4 (.box (.t 1)), .o 6 (.alloc (.st (.cons (.val (.int .i64 0)) (.cons (.val (.slice none 0 0)) (.cons (.val (.slice none 0 0)) .nil))))), .o 7 (.alloc (.st (.cons (.val (.int .i64 0)) (.cons (.val (.slice none 0 0)) .nil))))])
  (.seq (.seq (.ops [.o 13 (.mv (.t 2)), .o 14 (.bin .lss (.t 13) (.c (.int .i64 1))), .o 15 (.mv (.t 14)), .og 16 15 false (.mv (.t 2)), .og 17 15 false (.bin .gtr (.t 16) (.c (.int .i64 60))), .o 18 (.pick (.t 15) (.c (.bool true)) (.t 17))])
  (.cond (.t 18)
  (.seq (.dops [.o 19 (.ld true 3 (.t 4)), .o 20 (.call 20 [(.c (.int .i64 2))]), .n (.sto 3 (.t 6) (.t 19)), .n (.sto 2 (.t 7) (.t 20))])
  .ret)
  .skip))
  (.seq (.seq (.ops [.o 21 (.fa 0 0 (.t 4)), .o 22 (.ld false 1 (.t 21)), .o 23 (.mv (.t 2)), .o 24 (.bin .sub (.c (.int .i64 3652059)) (.t 23)), .o 25 (.bin .gtr (.t 22) (.t 24))])
  (.cond (.t 25)
  (.seq (.dops [.o 26 (.ld true 3 (.t 4)), .o 27 (.call 20 [(.c (.int .i64 141))]), .n (.sto 3 (.t 6) (.t 26)), .n (.sto 2 (.t 7) (.t 27))])
  .ret)
  .skip))
  (.seq (.ops [.o 28 (.ld true 3 (.t 4)), .o 8 (.alloc (.st (.cons (.val (.int .i64 0)) (.cons (.val (.slice none 0 0)) (.cons (.val (.slice none 0 0)) .nil))))), .n (.sto 3 (.t 8) (.t 28))])
  (.seq (.seq (.ops [.o 9 (.mv (.c (.int .i64 0)))])
  (.block 0 (.loop (.seq (.seq (.ops [.o 29 (.mv (.t 9)), .o 30 (.mv (.t 2)), .o 31 (.bin .lss (.t 29) (.t 30))])
  (.cond (.t 31)
  .skip
  (.exit 0)))
  (.seq (.block 1 (.seq (.ops [.o 35 (.ld true 18 (.t 3)), .o 36 (.ld true 3 (.t 8)), .o 37 (.call 31 [(.t 35), (.t 36)]), .o 34 (.mv (.t 37)), .o 38 (.ext 0 (.t 34)), .o 39 (.ext 1 (.t 34)), .o 10 (.alloc (.st (.cons (.val (.int .i64 0)) (.cons (.val (.slice none 0 0)) (.cons (.val (.slice none 0 0)) .nil))))), .n (.sto 3 (.t 10) (.t 38)), .o 11 (.mv (.t 39))])
  (.seq (.seq (.ops [.o 40 (.mv (.t 11)), .o 41 (.bin .neq (.t 40) (.c (.int .i64 0)))])
  (.cond (.t 41)
  (.seq (.ops [.o 42 (.ld true 3 (.t 4)), .o 43 (.mv (.t 11)), .o 44 (.build (.st (.cons (.val (.int .i64 0)) (.cons (.val (.slice none 0 0)) .nil))) [(0, 0, 1, (.t 43))]), .n (.sto 3 (.t 6) (.t 42)), .n (.sto 2 (.t 7) (.t 44))])
  .ret)
  .skip))
  (.ops [.o 45 (.ld true 3 (.t 10)), .n (.sto 3 (.t 8) (.t 45))]))))
  (.ops [.o 32 (.mv (.t 9)), .o 33 (.bin .add (.t 32) (.c (.int .i64 1))), .o 9 (.mv (.t 33))]))))))
  (.seq (.ops [.o 12 (.mv (.c (.slice none 0 0)))])
  (.seq (.ops [.o 46 (.mv (.t 12)), .o 47 (.fa 0 0 (.t 8)), .o 48 (.ld false 1 (.t 47)), .o 49 (.fa 2 2 (.t 8)), .o 50 (.ld false 1 (.t 49)), .o 51 (.len (.t 50)), .o 52 (.fa 2 2 (.t 4)), .o 53 (.ld false 1 (.t 52)), .o 54 (.len (.t 53)), .o 55 (.bin .sub (.t 51) (.t 54)), .o 56 (.bsl 1 2 (.val (.int .i64 0)) [(0, 0, 1, (.t 48)), (1, 1, 1, (.t 55))]), .o 57 (.app 1 8 2 (.t 46) (.t 56)), .o 12 (.mv (.t 57))])
  (.seq (.ops [.o 58 (.ld true 3 (.t 8)), .o 59 (.mv (.t 12)), .o 60 (.build (.st (.cons (.val (.int .i64 0)) (.cons (.val (.slice none 0 0)) .nil))) [(1, 1, 1, (.t 59))]), .n (.sto 3 (.t 6) (.t 58)), .n (.sto 2 (.t 7) (.t 60))])
  .ret))))))))
theorem hc_r15_days : compF Tryz.prog 61 Tryz.f18 = some (ic_r15_days, [.c 6 true 3, .c 7 true 2]) := by kernel_rfl

theorem fn_r15_onLoan : Tryz.prog.funcs[r15_onLoan]? = some Tryz.f19 := Tryz.func19
theorem nt_r15_onLoan : Tryz.f19.ntmps = 84 := Tryz.ntmps19
def ic_r15_onLoan : IC := (.seq (.ops [.o 3 (.box (.t 0)), .o 4 (.box (.t 1)), .o 5 (.box (.t 2)), .o 6 (.alloc (.st (.cons (.val (.int .i64 0)) (.cons (.val (.slice none 0 0)) (.cons (.val (.slice none 0 0)) .nil))))), .o 7 (.alloc (.st (.cons (.val (.int .i64 0)) (.cons (.val (.slice none 0 0)) .nil))))])
  (.seq (.ops [.o 10 (.ld true 3 (.t 4)), .o 11 (.fa 1 1 (.t 5)), .o 12 (.ld false 1 (.t 11)), .o 13 (.call 27 [(.t 10), (.t 12)]), .o 8 (.mv (.t 13))])
  (.seq (.seq (.ops [.o 14 (.mv (.t 8)), .o 15 (.bin .lss (.t 14) (.c (.int .i64 0)))])
  (.cond (.t 15)
  (.seq (.dops [.o 16 (.ld true 3 (.t 4)), .o 17 (.call 20 [(.c (.int .i64 150))]), .n (.sto 3 (.t 6) (.t 16)), .n (.sto 2 (.t 7) (.t 17))])
  .ret)
  .skip))
  (.seq (.seq (.ops [.o 18 (.fa 0 0 (.t 5)), .o 19 (.ld false 1 (.t 18)), .o 20 (.bin .eql (.t 19) (.c (.int .i64 2))), .o 21 (.mv (.t 20)), .og 22 21 true (.fa 4 4 (.t 5)), .og 23 21 true (.ld false 1 (.t 22)), .og 24 21 true (.bin .lss (.t 23) (.c (.int .i64 0))), .o 25 (.pick (.t 21) (.t 24) (.c (.bool false)))])
  (.cond (.t 25)
  (.seq (.dops [.o 26 (.ld true 3 (.t 4)), .o 27 (.call 20 [(.c (.int .i64 2))]), .n (.sto 3 (.t 6) (.t 26)), .n (.sto 2 (.t 7) (.t 27))])
  .ret)
  .skip))
  (.seq (.seq (.dops [.o 28 (.fa 0 0 (.t 5)), .o 29 (.ld false 1 (.t 28)), .o 30 (.bin .eql (.t 29) (.c (.int .i64 2))), .o 31 (.mv (.t 30)), .og 32 31 true (.fa 4 4 (.t 5)), .og 33 31 true (.ld false 1 (.t 32)), .og 34 31 true (.bin .gtr (.t 33) (.c (.int .i64 0))), .o 35 (.pick (.t 31) (.t 34) (.c (.bool false))), .o 36 (.mv (.t 35)), .og 37 36 true (.fa 4 4 (.t 5)), .og 38 36 true (.ld false 1 (.t 37)), .og 39 36 true (.fa 1 1 (.t 4)), .og 40 36 true (.ld false 1 (.t 39)), .og 41 36 true (.mv (.t 8)), .og 42 36 true (.ixs 46 (.t 40) (.t 41)), .og 43 36 true (.fa 11 45 (.t 42)), .og 44 36 true (.ld false 1 (.t 43)), .og 45 36 true (.bin .leq (.t 38) (.t 44)), .o 46 (.pick (.t 36) (.t 45) (.c (.bool false)))])
  (.cond (.t 46)
  (.seq (.dops [.o 47 (.ld true 3 (.t 4)), .o 48 (.call 20 [(.c (.int .i64 151))]), .n (.sto 3 (.t 6) (.t 47)), .n (.sto 2 (.t 7) (.t 48))])
  .ret)
  .skip))
  (.seq (.dops [.o 49 (.ld true 18 (.t 3)), .o 50 (.fa 1 1 (.t 4)), .o 51 (.ld false 1 (.t 50)), .o 52 (.mv (.t 8)), .o 53 (.ixs 46 (.t 51) (.t 52)), .o 54 (.ld true 46 (.t 53)), .o 55 (.ld true 7 (.t 5)), .o 56 (.call 32 [(.t 49), (.t 54), (.t 55)]), .o 9 (.alloc (.st (.cons (.st (.cons (.val (.int .i64 0)) (.cons (.st (.cons (.val (.int .i64 0)) (.cons (.val (.int .i64 0)) (.cons (.val (.int .i64 0)) (.cons (.val (.int .i64 0)) (.cons (.val (.int .i64 0)) (.cons (.val (.int .i64 0)) .nil))))))) (.cons (.val (.slice none 0 0)) (.cons (.st (.cons (.arr 12 1 fun _ => (.val (.int .i64 0))) .nil)) (.cons (.st (.cons (.val (.int .i64 0)) (.cons (.val (.bool false)) (.cons (.val (.int .i64 0)) (.cons (.val (.int .i64 0)) (.cons (.val (.int .i64 0)) (.cons (.val (.int .i64 0)) (.cons (.val (.int .i64 0)) (.cons (.val (.int .i64 0)) (.cons (.val (.int .i64 0)) (.cons (.val (.int .i64 0)) (.cons (.val (.int .i64 0)) (.cons (.val (.int .i64 0)) (.cons (.val (.int .i64 0)) (.cons (.val (.int .i64 0)) (.cons (.val (.int .i64 0)) .nil)))))))))))))))) (.cons (.val (.int .i64 0)) (.cons (.val (.int .i64 0)) (.cons (.val (.int .i64 0)) (.cons (.st (.cons (.val (.int .i64 0)) (.cons (.val (.int .i64 0)) (.cons (.val (.int .i64 0)) (.cons (.val (.int .i64 0)) (.cons (.val (.int .i64 0)) .nil)))))) (.cons (.val (.bool false)) (.cons (.val (.int .i64 0)) (.cons (.val (.int .i64 0)) .nil))))))))))))) (.cons (.st (.cons (.val (.int .i64 0)) (.cons (.val (.int .i64 0)) (.cons (.val (.int .i64 0)) (.cons (.val (.int .i64 0)) (.cons (.val (.int .i64 0)) .nil)))))) (.cons (.val (.slice none 0 0)) (.cons (.val (.int .i64 0)) .nil)))))), .n (.sto 53 (.t 9) (.t 56))])
  (.seq (.seq (.ops [.o 57 (.fa 3 52 (.t 9)), .o 58 (.ld false 1 (.t 57)), .o 59 (.bin .neq (.t 58) (.c (.int .i64 0)))])
  (.cond (.t 59)
  (.seq (.dopss [(.o 60 (.ld true 3 (.t 4)), []), (.o 61 (.fa 3 52 (.t 9)), []), (.o 62 (.ld false 1 (.t 61)), [6]), (.o 63 (.build (.st (.cons (.val (.int .i64 0)) (.cons (.val (.slice none 0 0)) .nil))) [(0, 0, 1, (.t 62))]), []), (.n (.sto 3 (.t 6) (.t 60)), []), (.n (.sto 2 (.t 7) (.t 63)), [])])
  .ret)
  .skip))
  (.seq (.seq (.ops [.o 64 (.fa 0 0 (.t 5)), .o 65 (.ld false 1 (.t 64)), .o 66 (.bin .eql (.t 65) (.c (.int .i64 2))), .o 67 (.mv (.t 66)), .og 68 67 true (.fa 4 4 (.t 5)), .og 69 67 true (.ld false 1 (.t 68)), .og 70 67 true (.bin .gtr (.t 69) (.c (.int .i64 0))), .o 71 (.pick (.t 67) (.t 70) (.c (.bool false)))])
  (.cond (.t 71)
  (.ops [.o 72 (.fa 4 4 (.t 5)), .o 73 (.ld false 1 (.t 72)), .o 74 (.fa 0 0 (.t 9)), .o 75 (.fa 11 45 (.t 74)), .n (.sto 1 (.t 75) (.t 73))])
  .skip))
  (.seq (.dops [.o 76 (.ld true 3 (.t 4)), .o 77 (.mv (.t 8)), .o 78 (.ld true 53 (.t 9)), .o 79 (.call 33 [(.t 76), (.t 77), (.t 78)]), .o 80 (.ld true 7 (.t 5)), .o 81 (.ld true 53 (.t 9)), .o 82 (.call 34 [(.t 80), (.t 81)]), .o 83 (.build (.st (.cons (.val (.int .i64 0)) (.cons (.val (.slice none 0 0)) .nil))) [(1, 1, 1, (.t 82))]), .n (.sto 3 (.t 6) (.t 79)), .n (.sto 2 (.t 7) (.t 83))])
  .ret)))))))))
theorem hc_r15_onLoan : compF Tryz.prog 84 Tryz.f19 = some (ic_r15_onLoan, [.c 6 true 3, .c 7 true 2]) := by kernel_rfl

theorem fn_r15_refusal : Tryz.prog.funcs[r15_refusal]? = some Tryz.f20 := Tryz.func20
theorem nt_r15_refusal : Tryz.f20.ntmps = 5 := Tryz.ntmps20
def ic_r15_refusal : IC := (.seq (.ops [.o 2 (.alloc (.st (.cons (.val (.int .i64 0)) (.cons (.val (.slice none 0 0)) .nil))))])
  (.seq (.ops [.o 3 (.mv (.t 0)), .o 4 (.build (.st (.cons (.val (.int .i64 0)) (.cons (.val (.slice none 0 0)) .nil))) [(0, 0, 1, (.t 3))]), .n (.sto 2 (.t 2) (.t 4))])
  .ret))
theorem hc_r15_refusal : compF Tryz.prog 5 Tryz.f20 = some (ic_r15_refusal, [.c 2 true 2]) := by kernel_rfl

theorem fn_ledger_wide_plus : Tryz.prog.funcs[ledger_wide_plus]? = some Tryz.f21 := Tryz.func21
theorem nt_ledger_wide_plus : Tryz.f21.ntmps = 25 := Tryz.ntmps21
def ic_ledger_wide_plus : IC := (.seq (.ops [.o 2 (.box (.t 0)), .o 4 (.alloc (.st (.cons (.val (.int .i64 0)) (.cons (.val (.int .u64 0)) .nil))))])
  (.seq (.ops [.o 8 (.fa 1 1 (.t 2)), .o 9 (.ld false 1 (.t 8)), .o 10 (.mv (.t 1)), .o 11 (.conv .u64 (.t 10)), .o 12 (.xcall 35 [(.t 9), (.t 11), (.c (.int .u64 0))]), .o 7 (.mv (.t 12)), .o 13 (.ext 0 (.t 7)), .o 14 (.ext 1 (.t 7)), .o 5 (.mv (.t 13)), .o 6 (.mv (.t 14))])
  (.seq (.ops [.o 15 (.fa 0 0 (.t 2)), .o 16 (.ld false 1 (.t 15)), .o 17 (.mv (.t 1)), .o 18 (.bin .shr (.t 17) (.c (.int .u64 63))), .o 19 (.bin .add (.t 16) (.t 18)), .o 20 (.mv (.t 6)), .o 21 (.conv .i64 (.t 20)), .o 22 (.bin .add (.t 19) (.t 21)), .o 23 (.mv (.t 5)), .o 24 (.build (.st (.cons (.val (.int .i64 0)) (.cons (.val (.int .u64 0)) .nil))) [(0, 0, 1, (.t 22)), (1, 1, 1, (.t 23))]), .n (.sto 2 (.t 4) (.t 24))])
  .ret)))
theorem hc_ledger_wide_plus : compF Tryz.prog 25 Tryz.f21 = some (ic_ledger_wide_plus, [.c 4 true 2]) := by kernel_rfl

theorem fn_ledger_wide_narrow : Tryz.prog.funcs[ledger_wide_narrow]? = some Tryz.f22 := Tryz.func22
theorem nt_ledger_wide_narrow : Tryz.f22.ntmps = 14 := Tryz.ntmps22
def ic_ledger_wide_narrow : IC := (.seq (.ops [.o 1 (.box (.t 0)), .o 2 (.mv (.c (.int .i64 0))), .o 3 (.mv (.c (.bool false)))])
  (.seq (.ops [.o 5 (.fa 1 1 (.t 1)), .o 6 (.ld false 1 (.t 5)), .o 7 (.conv .i64 (.t 6)), .o 4 (.mv (.t 7))])
  (.seq (.dops [.o 8 (.mv (.t 4)), .o 9 (.fa 0 0 (.t 1)), .o 10 (.ld false 1 (.t 9)), .o 11 (.mv (.t 4)), .o 12 (.bin .shr (.t 11) (.c (.int .u64 63))), .o 13 (.bin .eql (.t 10) (.t 12)), .o 2 (.mv (.t 8)), .o 3 (.mv (.t 13))])
  .ret)))
theorem hc_ledger_wide_narrow : compF Tryz.prog 14 Tryz.f22 = some (ic_ledger_wide_narrow, [.t 2, .t 3]) := by kernel_rfl

theorem fn_ledger_wide_minus : Tryz.prog.funcs[ledger_wide_minus]? = some Tryz.f23 := Tryz.func23
theorem nt_ledger_wide_minus : Tryz.f23.ntmps = 25 := Tryz.ntmps23
def ic_ledger_wide_minus : IC := (.seq (.ops [.o 2 (.box (.t 0)), .o 4 (.alloc (.st (.cons (.val (.int .i64 0)) (.cons (.val (.int .u64 0)) .nil))))])
  (.seq (.ops [.o 8 (.fa 1 1 (.t 2)), .o 9 (.ld false 1 (.t 8)), .o 10 (.mv (.t 1)), .o 11 (.conv .u64 (.t 10)), .o 12 (.xcall 36 [(.t 9), (.t 11), (.c (.int .u64 0))]), .o 7 (.mv (.t 12)), .o 13 (.ext 0 (.t 7)), .o 14 (.ext 1 (.t 7)), .o 5 (.mv (.t 13)), .o 6 (.mv (.t 14))])
  (.seq (.ops [.o 15 (.fa 0 0 (.t 2)), .o 16 (.ld false 1 (.t 15)), .o 17 (.mv (.t 1)), .o 18 (.bin .shr (.t 17) (.c (.int .u64 63))), .o 19 (.bin .sub (.t 16) (.t 18)), .o 20 (.mv (.t 6)), .o 21 (.conv .i64 (.t 20)), .o 22 (.bin .sub (.t 19) (.t 21)), .o 23 (.mv (.t 5)), .o 24 (.build (.st (.cons (.val (.int .i64 0)) (.cons (.val (.int .u64 0)) .nil))) [(0, 0, 1, (.t 22)), (1, 1, 1, (.t 23))]), .n (.sto 2 (.t 4) (.t 24))])
  .ret)))
theorem hc_ledger_wide_minus : compF Tryz.prog 25 Tryz.f23 = some (ic_ledger_wide_minus, [.c 4 true 2]) := by kernel_rfl

theorem fn_r1_Sum : Tryz.prog.funcs[r1_Sum]? = some Tryz.f24 := Tryz.func24
theorem nt_r1_Sum : Tryz.f24.ntmps = 32 := Tryz.ntmps24
def ic_r1_Sum : IC := (.seq (.ops [.o 2 (.mv (.c (.int .i64 0))), .o 3 (.mv (.c (.bool false)))])
  (.seq (.ops [.o 4 (.mv (.c (.int .i64 0))), .o 5 (.mv (.c (.int .i64 0)))])
  (.seq (.seq (.ops [.o 6 (.mv (.c (.int .i64 0)))])
  (.block 0 (.loop (.seq (.seq (.ops [.o 7 (.mv (.t 6)), .o 8 (.mv (.t 0)), .o 9 (.len (.t 8)), .o 10 (.bin .lss (.t 7) (.t 9))])
  (.cond (.t 10)
  .skip
  (.exit 0)))
  (.seq (.block 1 (.seq (.ops [.o 13 (.mv (.t 4)), .o 14 (.mv (.t 0)), .o 15 (.mv (.t 6)), .o 16 (.ixs 1 (.t 14) (.t 15)), .o 17 (.ld false 1 (.t 16)), .o 18 (.call 37 [(.t 17)]), .o 19 (.bin .add (.t 13) (.t 18)), .o 4 (.mv (.t 19))])
  (.ops [.o 20 (.mv (.t 5)), .o 21 (.mv (.t 0)), .o 22 (.mv (.t 6)), .o 23 (.ixs 1 (.t 21) (.t 22)), .o 24 (.ld false 1 (.t 23)), .o 25 (.call 38 [(.t 24)]), .o 26 (.bin .add (.t 20) (.t 25)), .o 5 (.mv (.t 26))])))
  (.ops [.o 11 (.mv (.t 6)), .o 12 (.bin .add (.t 11) (.c (.int .i64 1))), .o 6 (.mv (.t 12))]))))))
  (.seq (.ops [.o 27 (.mv (.t 4)), .o 28 (.mv (.t 5)), .o 29 (.call 39 [(.t 27), (.t 28)]), .o 30 (.ext 0 (.t 29)), .o 31 (.ext 1 (.t 29)), .o 2 (.mv (.t 30)), .o 3 (.mv (.t 31))])
  .ret))))
theorem hc_r1_Sum : compF Tryz.prog 32 Tryz.f24 = some (ic_r1_Sum, [.t 2, .t 3]) := by kernel_rfl

theorem fn_r12_in : Tryz.prog.funcs[r12_in]? = some Tryz.f25 := Tryz.func25
theorem nt_r12_in : Tryz.f25.ntmps = 15 := Tryz.ntmps25
def ic_r12_in : IC := (.seq (.ops [.o 6 (.mv (.c (.bool false)))])
  (.seq (.ops [.o 7 (.mv (.t 0)), .o 8 (.mv (.t 1)), .o 9 (.bin .geq (.t 7) (.t 8)), .o 10 (.mv (.t 9)), .og 11 10 true (.mv (.t 0)), .og 12 10 true (.mv (.t 2)), .og 13 10 true (.bin .leq (.t 11) (.t 12)), .o 14 (.pick (.t 10) (.t 13) (.c (.bool false))), .o 6 (.mv (.t 14))])
  .ret))
theorem hc_r12_in : compF Tryz.prog 15 Tryz.f25 = some (ic_r12_in, [.t 6]) := by kernel_rfl

theorem fn_r12_holidays : Tryz.prog.funcs[r12_holidays]? = some Tryz.f26 := Tryz.func26
theorem nt_r12_holidays : Tryz.f26.ntmps = 41 := Tryz.ntmps26
def ic_r12_holidays : IC := (.seq (.ops [.o 2 (.mv (.c (.bool false)))])
  (.seq (.seq (.ops [.o 4 (.mv (.t 0)), .o 5 (.len (.t 4)), .o 6 (.bin .gtr (.t 5) (.c (.int .i64 64)))])
  (.cond (.t 6)
  (.seq (.ops [.o 2 (.mv (.c (.bool false)))])
  .ret)
  .skip))
  (.seq (.seq (.ops [.o 3 (.mv (.c (.int .i64 0)))])
  (.block 0 (.loop (.seq (.seq (.ops [.o 7 (.mv (.t 3)), .o 8 (.mv (.t 0)), .o 9 (.len (.t 8)), .o 10 (.bin .lss (.t 7) (.t 9))])
  (.cond (.t 10)
  .skip
  (.exit 0)))
  (.seq (.block 1 (.seq (.dops [.o 13 (.mv (.t 0)), .o 14 (.mv (.t 3)), .o 15 (.ixs 1 (.t 13) (.t 14)), .o 16 (.ld false 1 (.t 15)), .o 17 (.bin .lss (.t 16) (.c (.int .i64 1))), .o 18 (.mv (.t 17)), .og 19 18 false (.mv (.t 0)), .og 20 18 false (.mv (.t 3)), .og 21 18 false (.ixs 1 (.t 19) (.t 20)), .og 22 18 false (.ld false 1 (.t 21)), .og 23 18 false (.bin .gtr (.t 22) (.c (.int .i64 3652059))), .o 24 (.pick (.t 18) (.c (.bool true)) (.t 23)), .o 25 (.mv (.t 24)), .og 26 25 false (.mv (.t 3)), .og 27 25 false (.bin .gtr (.t 26) (.c (.int .i64 0))), .og 28 25 false (.mv (.t 27)), .og 29 28 true (.mv (.t 0)), .og 30 28 true (.mv (.t 3)), .og 31 28 true (.ixs 1 (.t 29) (.t 30)), .og 32 28 true (.ld false 1 (.t 31)), .og 33 28 true (.mv (.t 0)), .og 34 28 true (.mv (.t 3)), .og 35 28 true (.bin .sub (.t 34) (.c (.int .i64 1))), .og 36 28 true (.ixs 1 (.t 33) (.t 35)), .og 37 28 true (.ld false 1 (.t 36)), .og 38 28 true (.bin .leq (.t 32) (.t 37)), .og 39 25 false (.pick (.t 28) (.t 38) (.c (.bool false))), .o 40 (.pick (.t 25) (.c (.bool true)) (.t 39))])
  (.cond (.t 40)
  (.seq (.ops [.o 2 (.mv (.c (.bool false)))])
  .ret)
  .skip)))
  (.ops [.o 11 (.mv (.t 3)), .o 12 (.bin .add (.t 11) (.c (.int .i64 1))), .o 3 (.mv (.t 12))]))))))
  (.seq (.ops [.o 2 (.mv (.c (.bool true)))])
  .ret))))
theorem hc_r12_holidays : compF Tryz.prog 41 Tryz.f26 = some (ic_r12_holidays, [.t 2]) := by kernel_rfl

theorem fn_r15_place : Tryz.prog.funcs[r15_place]? = some Tryz.f27 := Tryz.func27
theorem nt_r15_place : Tryz.f27.ntmps = 22 := Tryz.ntmps27
def ic_r15_place : IC := (.seq (.ops [.o 2 (.box (.t 0)), .o 4 (.mv (.c (.int .i64 0)))])
  (.seq (.seq (.ops [.o 5 (.mv (.c (.int .i64 0)))])
  (.block 0 (.loop (.seq (.seq (.ops [.o 6 (.mv (.t 5)), .o 7 (.fa 1 1 (.t 2)), .o 8 (.ld false 1 (.t 7)), .o 9 (.len (.t 8)), .o 10 (.bin .lss (.t 6) (.t 9))])
  (.cond (.t 10)
  .skip
  (.exit 0)))
  (.seq (.block 1 (.seq (.ops [.o 13 (.fa 1 1 (.t 2)), .o 14 (.ld false 1 (.t 13)), .o 15 (.mv (.t 5)), .o 16 (.ixs 46 (.t 14) (.t 15)), .o 17 (.fa 0 0 (.t 16)), .o 18 (.ld false 1 (.t 17)), .o 19 (.mv (.t 1)), .o 20 (.bin .eql (.t 18) (.t 19))])
  (.cond (.t 20)
  (.seq (.ops [.o 21 (.mv (.t 5)), .o 4 (.mv (.t 21))])
  .ret)
  .skip)))
  (.ops [.o 11 (.mv (.t 5)), .o 12 (.bin .add (.t 11) (.c (.int .i64 1))), .o 5 (.mv (.t 12))]))))))
  (.seq (.ops [.o 4 (.mv (.c (.int .i64 (-1))))])
  .ret)))
theorem hc_r15_place : compF Tryz.prog 22 Tryz.f27 = some (ic_r15_place, [.t 4]) := by kernel_rfl

theorem fn_r14_Open : Tryz.prog.funcs[r14_Open]? = some Tryz.f28 := Tryz.func28
theorem nt_r14_Open : Tryz.f28.ntmps = 52 := Tryz.ntmps28
def ic_r14_Open : IC := (.seq (.ops [.o 3 (.box (.t 0)), .o 5 (.box (.t 2)), .o 6 (.alloc (.st (.cons (.st (.cons (.val (.int .i64 0)) (.cons (.st (.cons (.val (.int .i64 0)) (.cons (.val (.int .i64 0)) (.cons (.val (.int .i64 0)) (.cons (.val (.int .i64 0)) (.cons (.val (.int .i64 0)) (.cons (.val (.int .i64 0)) .nil))))))) (.cons (.val (.slice none 0 0)) (.cons (.st (.cons (.arr 12 1 fun _ => (.val (.int .i64 0))) .nil)) (.cons (.st (.cons (.val (.int .i64 0)) (.cons (.val (.bool false)) (.cons (.val (.int .i64 0)) (.cons (.val (.int .i64 0)) (.cons (.val (.int .i64 0)) (.cons (.val (.int .i64 0)) (.cons (.val (.int .i64 0)) (.cons (.val (.int .i64 0)) (.cons (.val (.int .i64 0)) (.cons (.val (.int .i64 0)) (.cons (.val (.int .i64 0)) (.cons (.val (.int .i64 0)) (.cons (.val (.int .i64 0)) (.cons (.val (.int .i64 0)) (.cons (.val (.int .i64 0)) .nil)))))))))))))))) (.cons (.val (.int .i64 0)) (.cons (.val (.int .i64 0)) (.cons (.val (.int .i64 0)) (.cons (.st (.cons (.val (.int .i64 0)) (.cons (.val (.int .i64 0)) (.cons (.val (.int .i64 0)) (.cons (.val (.int .i64 0)) (.cons (.val (.int .i64 0)) .nil)))))) (.cons (.val (.bool false)) (.cons (.val (.int .i64 0)) (.cons (.val (.int .i64 0)) .nil))))))))))))) (.cons (.st (.cons (.val (.int .i64 0)) (.cons (.val (.int .i64 0)) (.cons (.val (.int .i64 0)) (.cons (.val (.int .i64 0)) (.cons (.val (.int .i64 0)) .nil)))))) (.cons (.val (.slice none 0 0)) (.cons (.val (.int .i64 0)) .nil))))))])
  (.seq (.ops [.o 10 (.ld true 18 (.t 3)), .o 11 (.build (.st (.cons (.val (.int .i64 0)) (.cons (.st (.cons (.val (.int .i64 0)) (.cons (.val (.int .i64 0)) (.cons (.val (.int .i64 0)) (.cons (.val (.int .i64 0)) (.cons (.val (.int .i64 0)) (.cons (.val (.int .i64 0)) .nil))))))) (.cons (.val (.slice none 0 0)) (.cons (.st (.cons (.arr 12 1 fun _ => (.val (.int .i64 0))) .nil)) (.cons (.st (.cons (.val (.int .i64 0)) (.cons (.val (.bool false)) (.cons (.val (.int .i64 0)) (.cons (.val (.int .i64 0)) (.cons (.val (.int .i64 0)) (.cons (.val (.int .i64 0)) (.cons (.val (.int .i64 0)) (.cons (.val (.int .i64 0)) (.cons (.val (.int .i64 0)) (.cons (.val (.int .i64 0)) (.cons (.val (.int .i64 0)) (.cons (.val (.int .i64 0)) (.cons (.val (.int .i64 0)) (.cons (.val (.int .i64 0)) (.cons (.val (.int .i64 0)) .nil)))))))))))))))) (.cons (.val (.int .i64 0)) (.cons (.val (.int .i64 0)) (.cons (.val (.int .i64 0)) (.cons (.st (.cons (.val (.int .i64 0)) (.cons (.val (.int .i64 0)) (.cons (.val (.int .i64 0)) (.cons (.val (.int .i64 0)) (.cons (.val (.int .i64 0)) .nil)))))) (.cons (.val (.bool false)) (.cons (.val (.int .i64 0)) (.cons (.val (.int .i64 0)) .nil))))))))))))) []), .o 12 (.call 40 [(.t 10), (.t 11)]), .o 7 (.alloc (.st (.cons (.st (.cons (.val (.int .i64 0)) (.cons (.val (.int .i64 0)) (.cons (.val (.int .i64 0)) (.cons (.val (.int .i64 0)) (.cons (.val (.int .i64 0)) (.cons (.val (.int .i64 0)) (.cons (.val (.int .i64 0)) (.cons (.val (.int .i64 0)) (.cons (.val (.int .i64 0)) (.cons (.val (.int .i64 0)) (.cons (.val (.int .i64 0)) (.cons (.val (.int .i64 0)) (.cons (.val (.int .i64 0)) (.cons (.val (.int .i64 0)) (.cons (.val (.int .i64 0)) (.cons (.val (.int .i64 0)) (.cons (.val (.int .i64 0)) (.cons (.val (.slice none 0 0)) .nil))))))))))))))))))) (.cons (.st (.cons (.val (.int .i64 0)) (.cons (.st (.cons (.val (.int .i64 0)) (.cons (.val (.int .i64 0)) (.cons (.val (.int .i64 0)) (.cons (.val (.int .i64 0)) (.cons (.val (.int .i64 0)) (.cons (.val (.int .i64 0)) .nil))))))) (.cons (.val (.slice none 0 0)) (.cons (.st (.cons (.arr 12 1 fun _ => (.val (.int .i64 0))) .nil)) (.cons (.st (.cons (.val (.int .i64 0)) (.cons (.val (.bool false)) (.cons (.val (.int .i64 0)) (.cons (.val (.int .i64 0)) (.cons (.val (.int .i64 0)) (.cons (.val (.int .i64 0)) (.cons (.val (.int .i64 0)) (.cons (.val (.int .i64 0)) (.cons (.val (.int .i64 0)) (.cons (.val (.int .i64 0)) (.cons (.val (.int .i64 0)) (.cons (.val (.int .i64 0)) (.cons (.val (.int .i64 0)) (.cons (.val (.int .i64 0)) (.cons (.val (.int .i64 0)) .nil)))))))))))))))) (.cons (.val (.int .i64 0)) (.cons (.val (.int .i64 0)) (.cons (.val (.int .i64 0)) (.cons (.st (.cons (.val (.int .i64 0)) (.cons (.val (.int .i64 0)) (.cons (.val (.int .i64 0)) (.cons (.val (.int .i64 0)) (.cons (.val (.int .i64 0)) .nil)))))) (.cons (.val (.bool false)) (.cons (.val (.int .i64 0)) (.cons (.val (.int .i64 0)) .nil))))))))))))) (.cons (.st (.cons (.val (.int .i64 0)) (.cons (.val (.int .i64 0)) (.cons (.val (.int .i64 0)) (.cons (.val (.int .i64 0)) (.cons (.val (.int .i64 0)) .nil)))))) (.cons (.val (.slice none 0 0)) (.cons (.val (.int .i64 0)) .nil))))))), .n (.sto 71 (.t 7) (.t 12))])
  (.seq (.ops [.o 13 (.ld true 71 (.t 7)), .o 14 (.mv (.t 1)), .o 15 (.bin .lss (.t 14) (.c (.int .i64 1))), .o 16 (.mv (.t 15)), .og 17 16 false (.mv (.t 1)), .og 18 16 false (.bin .gtr (.t 17) (.c (.int .i64 999999))), .o 19 (.pick (.t 16) (.c (.bool true)) (.t 18)), .o 20 (.call 41 [(.t 13), (.t 19), (.c (.int .i64 2))]), .n (.sto 71 (.t 7) (.t 20))])
  (.seq (.dops [.o 21 (.ld true 71 (.t 7)), .o 22 (.ld true 6 (.t 5)), .o 23 (.call 42 [(.t 22)]), .o 24 (.call 41 [(.t 21), (.t 23), (.c (.int .i64 140))]), .n (.sto 71 (.t 7) (.t 24))])
  (.seq (.ops [.o 26 (.ld true 6 (.t 5)), .o 27 (.fa 17 17 (.t 3)), .o 28 (.ld false 1 (.t 27)), .o 29 (.call 43 [(.t 26), (.t 28)]), .o 25 (.mv (.t 29)), .o 30 (.ext 0 (.t 25)), .o 31 (.ext 1 (.t 25)), .o 8 (.mv (.t 30)), .o 9 (.mv (.t 31))])
  (.seq (.ops [.o 32 (.ld true 71 (.t 7)), .o 33 (.mv (.t 9)), .o 34 (.un .not (.t 33)), .o 35 (.call 41 [(.t 32), (.t 34), (.c (.int .i64 141))]), .n (.sto 71 (.t 7) (.t 35))])
  (.seq (.dops [.o 36 (.mv (.t 1)), .o 37 (.ld true 6 (.t 5)), .o 38 (.mv (.t 8)), .o 39 (.call 44 []), .o 40 (.fa 4 4 (.t 5)), .o 41 (.ld false 1 (.t 40)), .o 42 (.build (.st (.cons (.val (.int .i64 0)) (.cons (.st (.cons (.val (.int .i64 0)) (.cons (.val (.int .i64 0)) (.cons (.val (.int .i64 0)) (.cons (.val (.int .i64 0)) (.cons (.val (.int .i64 0)) (.cons (.val (.int .i64 0)) .nil))))))) (.cons (.val (.slice none 0 0)) (.cons (.st (.cons (.arr 12 1 fun _ => (.val (.int .i64 0))) .nil)) (.cons (.st (.cons (.val (.int .i64 0)) (.cons (.val (.bool false)) (.cons (.val (.int .i64 0)) (.cons (.val (.int .i64 0)) (.cons (.val (.int .i64 0)) (.cons (.val (.int .i64 0)) (.cons (.val (.int .i64 0)) (.cons (.val (.int .i64 0)) (.cons (.val (.int .i64 0)) (.cons (.val (.int .i64 0)) (.cons (.val (.int .i64 0)) (.cons (.val (.int .i64 0)) (.cons (.val (.int .i64 0)) (.cons (.val (.int .i64 0)) (.cons (.val (.int .i64 0)) .nil)))))))))))))))) (.cons (.val (.int .i64 0)) (.cons (.val (.int .i64 0)) (.cons (.val (.int .i64 0)) (.cons (.st (.cons (.val (.int .i64 0)) (.cons (.val (.int .i64 0)) (.cons (.val (.int .i64 0)) (.cons (.val (.int .i64 0)) (.cons (.val (.int .i64 0)) .nil)))))) (.cons (.val (.bool false)) (.cons (.val (.int .i64 0)) (.cons (.val (.int .i64 0)) .nil))))))))))))) [(0, 0, 1, (.t 36)), (1, 1, 6, (.t 37)), (2, 7, 1, (.t 38)), (4, 20, 15, (.t 39)), (5, 35, 1, (.t 41))]), .o 43 (.fa 1 18 (.t 7)), .n (.sto 46 (.t 43) (.t 42))])
  (.seq (.dops [.o 44 (.ld true 71 (.t 7)), .o 45 (.fa 1 1 (.t 5)), .o 46 (.ld false 1 (.t 45)), .o 47 (.call 46 [(.c (.slice none 0 0)), (.c (.int .i64 1)), (.c (.int .i64 6)), (.t 46)]), .o 48 (.call 45 [(.t 44), (.t 47)]), .n (.sto 71 (.t 7) (.t 48))])
  (.seq (.ops [.o 49 (.ld true 71 (.t 7)), .o 50 (.build (.st (.cons (.val (.int .i64 0)) (.cons (.st (.cons (.val (.int .i64 0)) (.cons (.val (.int .i64 0)) (.cons (.val (.int .i64 0)) (.cons (.val (.int .i64 0)) (.cons (.val (.int .i64 0)) (.cons (.val (.int .i64 0)) .nil))))))) (.cons (.val (.slice none 0 0)) (.cons (.st (.cons (.arr 12 1 fun _ => (.val (.int .i64 0))) .nil)) (.cons (.st (.cons (.val (.int .i64 0)) (.cons (.val (.bool false)) (.cons (.val (.int .i64 0)) (.cons (.val (.int .i64 0)) (.cons (.val (.int .i64 0)) (.cons (.val (.int .i64 0)) (.cons (.val (.int .i64 0)) (.cons (.val (.int .i64 0)) (.cons (.val (.int .i64 0)) (.cons (.val (.int .i64 0)) (.cons (.val (.int .i64 0)) (.cons (.val (.int .i64 0)) (.cons (.val (.int .i64 0)) (.cons (.val (.int .i64 0)) (.cons (.val (.int .i64 0)) .nil)))))))))))))))) (.cons (.val (.int .i64 0)) (.cons (.val (.int .i64 0)) (.cons (.val (.int .i64 0)) (.cons (.st (.cons (.val (.int .i64 0)) (.cons (.val (.int .i64 0)) (.cons (.val (.int .i64 0)) (.cons (.val (.int .i64 0)) (.cons (.val (.int .i64 0)) .nil)))))) (.cons (.val (.bool false)) (.cons (.val (.int .i64 0)) (.cons (.val (.int .i64 0)) .nil))))))))))))) []), .o 51 (.call 47 [(.t 49), (.t 50)]), .n (.sto 53 (.t 6) (.t 51))])
  .ret)))))))))
theorem hc_r14_Open : compF Tryz.prog 52 Tryz.f28 = some (ic_r14_Open, [.c 6 true 53]) := by kernel_rfl

theorem fn_r15_noticed : Tryz.prog.funcs[r15_noticed]? = some Tryz.f29 := Tryz.func29
theorem nt_r15_noticed : Tryz.f29.ntmps = 45 := Tryz.ntmps29
def ic_r15_noticed : IC := (.seq (.ops [.o 2 (.box (.t 0)), .o 4 (.alloc (.st (.cons (.val (.int .i64 0)) (.cons (.val (.slice none 0 0)) (.cons (.val (.slice none 0 0)) .nil)))))])
  (.seq (.ops [.o 5 (.mv (.c (.slice none 0 0)))])
  (.seq (.seq (.ops [.o 6 (.mv (.c (.int .i64 0)))])
  (.block 0 (.loop (.seq (.seq (.ops [.o 9 (.mv (.t 6)), .o 10 (.fa 2 2 (.t 2)), .o 11 (.ld false 1 (.t 10)), .o 12 (.len (.t 11)), .o 13 (.bin .lss (.t 9) (.t 12))])
  (.cond (.t 13)
  .skip
  (.exit 0)))
  (.seq (.block 1 (.ops [.o 16 (.mv (.t 5)), .o 17 (.fa 2 2 (.t 2)), .o 18 (.ld false 1 (.t 17)), .o 19 (.mv (.t 6)), .o 20 (.ixs 6 (.t 18) (.t 19)), .o 21 (.ld true 6 (.t 20)), .o 22 (.bsl 6 66 (.st (.cons (.val (.int .i64 0)) (.cons (.val (.int .i64 0)) (.cons (.val (.int .i64 0)) (.cons (.val (.int .i64 0)) (.cons (.val (.int .i64 0)) (.cons (.val (.bool false)) .nil))))))) [(0, 0, 6, (.t 21))]), .o 23 (.app 6 48 66 (.t 16) (.t 22)), .o 5 (.mv (.t 23))]))
  (.ops [.o 14 (.mv (.t 6)), .o 15 (.bin .add (.t 14) (.c (.int .i64 1))), .o 6 (.mv (.t 15))]))))))
  (.seq (.seq (.ops [.o 7 (.mv (.c (.int .i64 0)))])
  (.block 2 (.loop (.seq (.seq (.ops [.o 24 (.mv (.t 7)), .o 25 (.mv (.t 1)), .o 26 (.len (.t 25)), .o 27 (.bin .lss (.t 24) (.t 26))])
  (.cond (.t 27)
  .skip
  (.exit 2)))
  (.seq (.block 3 (.seq (.ops [.o 30 (.mv (.t 1)), .o 31 (.mv (.t 7)), .o 32 (.ixs 6 (.t 30) (.t 31)), .o 33 (.ld true 6 (.t 32)), .o 8 (.alloc (.st (.cons (.val (.int .i64 0)) (.cons (.val (.int .i64 0)) (.cons (.val (.int .i64 0)) (.cons (.val (.int .i64 0)) (.cons (.val (.int .i64 0)) (.cons (.val (.bool false)) .nil)))))))), .n (.sto 6 (.t 8) (.t 33))])
  (.seq (.ops [.o 34 (.mv (.t 5)), .o 35 (.len (.t 34)), .o 36 (.bin .add (.t 35) (.c (.int .i64 1))), .o 37 (.fa 0 0 (.t 8)), .n (.sto 1 (.t 37) (.t 36))])
  (.ops [.o 38 (.mv (.t 5)), .o 39 (.ld true 6 (.t 8)), .o 40 (.bsl 6 66 (.st (.cons (.val (.int .i64 0)) (.cons (.val (.int .i64 0)) (.cons (.val (.int .i64 0)) (.cons (.val (.int .i64 0)) (.cons (.val (.int .i64 0)) (.cons (.val (.bool false)) .nil))))))) [(0, 0, 6, (.t 39))]), .o 41 (.app 6 48 66 (.t 38) (.t 40)), .o 5 (.mv (.t 41))]))))
  (.ops [.o 28 (.mv (.t 7)), .o 29 (.bin .add (.t 28) (.c (.int .i64 1))), .o 7 (.mv (.t 29))]))))))
  (.seq (.ops [.o 42 (.mv (.t 5)), .o 43 (.fa 2 2 (.t 2)), .n (.sto 1 (.t 43) (.t 42))])
  (.seq (.ops [.o 44 (.ld true 3 (.t 2)), .n (.sto 3 (.t 4) (.t 44))])
  .ret))))))
theorem hc_r15_noticed : compF Tryz.prog 45 Tryz.f29 = some (ic_r15_noticed, [.c 4 true 3]) := by kernel_rfl

theorem fn_r15_first : Tryz.prog.funcs[r15_first]? = some Tryz.f30 := Tryz.func30
theorem nt_r15_first : Tryz.f30.ntmps = 37 := Tryz.ntmps30
def ic_r15_first : IC := (.seq (.ops [.o 1 (.box (.t 0)), .o 2 (.mv (.c (.slice none 0 0)))])
  (.seq (.ops [.o 3 (.mv (.c (.slice none 0 0)))])
  (.seq (.ops [.o 4 (.mv (.t 3)), .o 5 (.fa 2 7 (.t 1)), .o 6 (.ld false 1 (.t 5)), .o 7 (.len (.t 6)), .o 8 (.bsl 1 2 (.val (.int .i64 0)) [(0, 0, 1, (.t 7))]), .o 9 (.app 1 8 2 (.t 4) (.t 8)), .o 3 (.mv (.t 9))])
  (.seq (.seq (.ops [.o 10 (.fa 2 7 (.t 1)), .o 11 (.ld false 1 (.t 10)), .o 12 (.len (.t 11)), .o 13 (.bin .gtr (.t 12) (.c (.int .i64 0)))])
  (.cond (.t 13)
  (.seq (.ops [.o 14 (.mv (.t 3)), .o 15 (.fa 2 7 (.t 1)), .o 16 (.ld false 1 (.t 15)), .o 17 (.ixs 4 (.t 16) (.c (.int .i64 0))), .o 18 (.fa 0 0 (.t 17)), .o 19 (.ld false 1 (.t 18)), .o 20 (.bsl 1 2 (.val (.int .i64 0)) [(0, 0, 1, (.t 19))]), .o 21 (.app 1 8 2 (.t 14) (.t 20)), .o 3 (.mv (.t 21))])
  (.dops [.o 22 (.mv (.t 3)), .o 23 (.fa 2 7 (.t 1)), .o 24 (.ld false 1 (.t 23)), .o 25 (.ixs 4 (.t 24) (.c (.int .i64 0))), .o 26 (.fa 1 1 (.t 25)), .o 27 (.ld false 1 (.t 26)), .o 28 (.fa 2 7 (.t 1)), .o 29 (.ld false 1 (.t 28)), .o 30 (.ixs 4 (.t 29) (.c (.int .i64 0))), .o 31 (.fa 2 2 (.t 30)), .o 32 (.ld false 1 (.t 31)), .o 33 (.bin .add (.t 27) (.t 32)), .o 34 (.bsl 1 2 (.val (.int .i64 0)) [(0, 0, 1, (.t 33))]), .o 35 (.app 1 8 2 (.t 22) (.t 34)), .o 3 (.mv (.t 35))]))
  .skip))
  (.seq (.ops [.o 36 (.mv (.t 3)), .o 2 (.mv (.t 36))])
  .ret)))))
theorem hc_r15_first : compF Tryz.prog 37 Tryz.f30 = some (ic_r15_first, [.t 2]) := by kernel_rfl

theorem fn_r15_rolled : Tryz.prog.funcs[r15_rolled]? = some Tryz.f31 := Tryz.func31
theorem nt_r15_rolled : Tryz.f31.ntmps = 37 := Tryz.ntmps31
def ic_r15_rolled : IC := (.seq (.ops [.o 2 (.box (.t 0)), .o 3 (.box (.t 1)), .o 4 (.alloc (.st (.cons (.val (.int .i64 0)) (.cons (.val (.slice none 0 0)) (.cons (.val (.slice none 0 0)) .nil))))), .o 5 (.mv (.c (.int .i64 0)))])
  (.seq (.seq (.ops [.o 6 (.mv (.c (.int .i64 0)))])
  (.block 0 (.loop (.seq (.seq (.ops [.o 8 (.mv (.t 6)), .o 9 (.fa 1 1 (.t 3)), .o 10 (.ld false 1 (.t 9)), .o 11 (.len (.t 10)), .o 12 (.bin .lss (.t 8) (.t 11))])
  (.cond (.t 12)
  .skip
  (.exit 0)))
  (.seq (.block 1 (.seq (.dops [.o 15 (.ld true 18 (.t 2)), .o 16 (.fa 1 1 (.t 3)), .o 17 (.ld false 1 (.t 16)), .o 18 (.mv (.t 6)), .o 19 (.ixs 46 (.t 17) (.t 18)), .o 20 (.ld true 46 (.t 19)), .o 21 (.call 48 [(.t 15), (.t 20)]), .o 7 (.alloc (.st (.cons (.st (.cons (.val (.int .i64 0)) (.cons (.st (.cons (.val (.int .i64 0)) (.cons (.val (.int .i64 0)) (.cons (.val (.int .i64 0)) (.cons (.val (.int .i64 0)) (.cons (.val (.int .i64 0)) (.cons (.val (.int .i64 0)) .nil))))))) (.cons (.val (.slice none 0 0)) (.cons (.st (.cons (.arr 12 1 fun _ => (.val (.int .i64 0))) .nil)) (.cons (.st (.cons (.val (.int .i64 0)) (.cons (.val (.bool false)) (.cons (.val (.int .i64 0)) (.cons (.val (.int .i64 0)) (.cons (.val (.int .i64 0)) (.cons (.val (.int .i64 0)) (.cons (.val (.int .i64 0)) (.cons (.val (.int .i64 0)) (.cons (.val (.int .i64 0)) (.cons (.val (.int .i64 0)) (.cons (.val (.int .i64 0)) (.cons (.val (.int .i64 0)) (.cons (.val (.int .i64 0)) (.cons (.val (.int .i64 0)) (.cons (.val (.int .i64 0)) .nil)))))))))))))))) (.cons (.val (.int .i64 0)) (.cons (.val (.int .i64 0)) (.cons (.val (.int .i64 0)) (.cons (.st (.cons (.val (.int .i64 0)) (.cons (.val (.int .i64 0)) (.cons (.val (.int .i64 0)) (.cons (.val (.int .i64 0)) (.cons (.val (.int .i64 0)) .nil)))))) (.cons (.val (.bool false)) (.cons (.val (.int .i64 0)) (.cons (.val (.int .i64 0)) .nil))))))))))))) (.cons (.st (.cons (.val (.int .i64 0)) (.cons (.val (.int .i64 0)) (.cons (.val (.int .i64 0)) (.cons (.val (.int .i64 0)) (.cons (.val (.int .i64 0)) .nil)))))) (.cons (.val (.slice none 0 0)) (.cons (.val (.int .i64 0)) .nil)))))), .n (.sto 53 (.t 7) (.t 21))])
  (.seq (.seq (.ops [.o 22 (.fa 3 52 (.t 7)), .o 23 (.ld false 1 (.t 22)), .o 24 (.bin .neq (.t 23) (.c (.int .i64 0)))])
  (.cond (.t 24)
  (.seq (.dopss [(.o 25 (.ld true 3 (.t 3)), []), (.o 26 (.fa 3 52 (.t 7)), []), (.o 27 (.ld false 1 (.t 26)), [4]), (.n (.sto 3 (.t 4) (.t 25)), []), (.o 5 (.mv (.t 27)), [])])
  .ret)
  .skip))
  (.ops [.o 28 (.ld true 3 (.t 3)), .o 29 (.mv (.t 6)), .o 30 (.ld true 53 (.t 7)), .o 31 (.call 33 [(.t 28), (.t 29), (.t 30)]), .n (.sto 3 (.t 3) (.t 31))]))))
  (.ops [.o 13 (.mv (.t 6)), .o 14 (.bin .add (.t 13) (.c (.int .i64 1))), .o 6 (.mv (.t 14))]))))))
  (.seq (.ops [.o 32 (.fa 0 0 (.t 3)), .o 33 (.ld false 1 (.t 32)), .o 34 (.bin .add (.t 33) (.c (.int .i64 1))), .o 35 (.fa 0 0 (.t 3)), .n (.sto 1 (.t 35) (.t 34))])
  (.seq (.ops [.o 36 (.ld true 3 (.t 3)), .n (.sto 3 (.t 4) (.t 36)), .o 5 (.mv (.c (.int .i64 0)))])
  .ret))))
theorem hc_r15_rolled : compF Tryz.prog 37 Tryz.f31 = some (ic_r15_rolled, [.c 4 true 3, .t 5]) := by kernel_rfl

theorem fn_r15_called : Tryz.prog.funcs[r15_called]? = some Tryz.f32 := Tryz.func32
theorem nt_r15_called : Tryz.f32.ntmps = 51 := Tryz.ntmps32
def ic_r15_called : IC := (.seq (.ops [.o 3 (.box (.t 0)), .o 4 (.box (.t 1)), .o 5 (.box (.t 2)), .o 6 (.alloc (.st (.cons (.st (.cons (.val (.int .i64 0)) (.cons (.st (.cons (.val (.int .i64 0)) (.cons (.val (.int .i64 0)) (.cons (.val (.int .i64 0)) (.cons (.val (.int .i64 0)) (.cons (.val (.int .i64 0)) (.cons (.val (.int .i64 0)) .nil))))))) (.cons (.val (.slice none 0 0)) (.cons (.st (.cons (.arr 12 1 fun _ => (.val (.int .i64 0))) .nil)) (.cons (.st (.cons (.val (.int .i64 0)) (.cons (.val (.bool false)) (.cons (.val (.int .i64 0)) (.cons (.val (.int .i64 0)) (.cons (.val (.int .i64 0)) (.cons (.val (.int .i64 0)) (.cons (.val (.int .i64 0)) (.cons (.val (.int .i64 0)) (.cons (.val (.int .i64 0)) (.cons (.val (.int .i64 0)) (.cons (.val (.int .i64 0)) (.cons (.val (.int .i64 0)) (.cons (.val (.int .i64 0)) (.cons (.val (.int .i64 0)) (.cons (.val (.int .i64 0)) .nil)))))))))))))))) (.cons (.val (.int .i64 0)) (.cons (.val (.int .i64 0)) (.cons (.val (.int .i64 0)) (.cons (.st (.cons (.val (.int .i64 0)) (.cons (.val (.int .i64 0)) (.cons (.val (.int .i64 0)) (.cons (.val (.int .i64 0)) (.cons (.val (.int .i64 0)) .nil)))))) (.cons (.val (.bool false)) (.cons (.val (.int .i64 0)) (.cons (.val (.int .i64 0)) .nil))))))))))))) (.cons (.st (.cons (.val (.int .i64 0)) (.cons (.val (.int .i64 0)) (.cons (.val (.int .i64 0)) (.cons (.val (.int .i64 0)) (.cons (.val (.int .i64 0)) .nil)))))) (.cons (.val (.slice none 0 0)) (.cons (.val (.int .i64 0)) .nil))))))])
  (.seq (.seq (.ops [.o 7 (.fa 0 0 (.t 5)), .o 8 (.ld false 1 (.t 7))])
  (.block 0 (.seq (.ops [.o 10 (.bin .eql (.t 8) (.c (.int .i64 2))), .o 9 (.mv (.t 10))])
  (.cond (.t 9)
  (.seq (.ops [.o 11 (.ld true 18 (.t 3)), .o 12 (.ld true 46 (.t 4)), .o 13 (.fa 2 2 (.t 5)), .o 14 (.ld false 1 (.t 13)), .o 15 (.call 49 [(.t 11), (.t 12), (.t 14)]), .n (.sto 53 (.t 6) (.t 15))])
  .ret)
  (.seq (.ops [.o 17 (.bin .eql (.t 8) (.c (.int .i64 3))), .o 16 (.mv (.t 17))])
  (.cond (.t 16)
  (.seq (.ops [.o 18 (.ld true 18 (.t 3)), .o 19 (.ld true 46 (.t 4)), .o 20 (.call 50 [(.t 18), (.t 19)]), .n (.sto 53 (.t 6) (.t 20))])
  .ret)
  (.seq (.ops [.o 22 (.bin .eql (.t 8) (.c (.int .i64 4))), .o 21 (.mv (.t 22))])
  (.cond (.t 21)
  (.seq (.ops [.o 23 (.ld true 18 (.t 3)), .o 24 (.ld true 46 (.t 4)), .o 25 (.fa 2 2 (.t 5)), .o 26 (.ld false 1 (.t 25)), .o 27 (.call 51 [(.t 23), (.t 24), (.t 26)]), .n (.sto 53 (.t 6) (.t 27))])
  .ret)
  (.seq (.ops [.o 29 (.bin .eql (.t 8) (.c (.int .i64 5))), .o 28 (.mv (.t 29))])
  (.cond (.t 28)
  (.seq (.ops [.o 30 (.ld true 18 (.t 3)), .o 31 (.ld true 46 (.t 4)), .o 32 (.fa 2 2 (.t 5)), .o 33 (.ld false 1 (.t 32)), .o 34 (.call 52 [(.t 30), (.t 31), (.t 33)]), .n (.sto 53 (.t 6) (.t 34))])
  .ret)
  (.seq (.ops [.o 36 (.bin .eql (.t 8) (.c (.int .i64 6))), .o 35 (.mv (.t 36))])
  (.cond (.t 35)
  (.seq (.ops [.o 37 (.ld true 18 (.t 3)), .o 38 (.ld true 46 (.t 4)), .o 39 (.fa 2 2 (.t 5)), .o 40 (.ld false 1 (.t 39)), .o 41 (.fa 5 5 (.t 5)), .o 42 (.ld false 1 (.t 41)), .o 43 (.call 53 [(.t 37), (.t 38), (.t 40), (.t 42)]), .n (.sto 53 (.t 6) (.t 43))])
  .ret)
  .skip))))))))))))
  (.seq (.ops [.o 44 (.ld true 18 (.t 3)), .o 45 (.ld true 46 (.t 4)), .o 46 (.fa 4 4 (.t 5)), .o 47 (.ld false 1 (.t 46)), .o 48 (.fa 3 3 (.t 5)), .o 49 (.ld false 1 (.t 48)), .o 50 (.call 54 [(.t 44), (.t 45), (.t 47), (.t 49)]), .n (.sto 53 (.t 6) (.t 50))])
  .ret)))
theorem hc_r15_called : compF Tryz.prog 51 Tryz.f32 = some (ic_r15_called, [.c 6 true 53]) := by kernel_rfl

theorem fn_r15_changed : Tryz.prog.funcs[r15_changed]? = some Tryz.f33 := Tryz.func33
theorem nt_r15_changed : Tryz.f33.ntmps = 38 := Tryz.ntmps33
def ic_r15_changed : IC := (.seq (.ops [.o 3 (.box (.t 0)), .o 5 (.box (.t 2)), .o 6 (.alloc (.st (.cons (.val (.int .i64 0)) (.cons (.val (.slice none 0 0)) (.cons (.val (.slice none 0 0)) .nil)))))])
  (.seq (.ops [.o 7 (.mv (.c (.slice none 0 0)))])
  (.seq (.seq (.ops [.o 8 (.mv (.c (.int .i64 0)))])
  (.block 0 (.loop (.seq (.seq (.ops [.o 9 (.mv (.t 8)), .o 10 (.fa 1 1 (.t 3)), .o 11 (.ld false 1 (.t 10)), .o 12 (.len (.t 11)), .o 13 (.bin .lss (.t 9) (.t 12))])
  (.cond (.t 13)
  .skip
  (.exit 0)))
  (.seq (.block 1 (.seq (.ops [.o 16 (.mv (.t 8)), .o 17 (.mv (.t 1)), .o 18 (.bin .eql (.t 16) (.t 17))])
  (.cond (.t 18)
  (.ops [.o 19 (.mv (.t 7)), .o 20 (.fa 0 0 (.t 5)), .o 21 (.ld true 46 (.t 20)), .o 22 (.bsl 46 58 (.st (.cons (.val (.int .i64 0)) (.cons (.st (.cons (.val (.int .i64 0)) (.cons (.val (.int .i64 0)) (.cons (.val (.int .i64 0)) (.cons (.val (.int .i64 0)) (.cons (.val (.int .i64 0)) (.cons (.val (.int .i64 0)) .nil))))))) (.cons (.val (.slice none 0 0)) (.cons (.st (.cons (.arr 12 1 fun _ => (.val (.int .i64 0))) .nil)) (.cons (.st (.cons (.val (.int .i64 0)) (.cons (.val (.bool false)) (.cons (.val (.int .i64 0)) (.cons (.val (.int .i64 0)) (.cons (.val (.int .i64 0)) (.cons (.val (.int .i64 0)) (.cons (.val (.int .i64 0)) (.cons (.val (.int .i64 0)) (.cons (.val (.int .i64 0)) (.cons (.val (.int .i64 0)) (.cons (.val (.int .i64 0)) (.cons (.val (.int .i64 0)) (.cons (.val (.int .i64 0)) (.cons (.val (.int .i64 0)) (.cons (.val (.int .i64 0)) .nil)))))))))))))))) (.cons (.val (.int .i64 0)) (.cons (.val (.int .i64 0)) (.cons (.val (.int .i64 0)) (.cons (.st (.cons (.val (.int .i64 0)) (.cons (.val (.int .i64 0)) (.cons (.val (.int .i64 0)) (.cons (.val (.int .i64 0)) (.cons (.val (.int .i64 0)) .nil)))))) (.cons (.val (.bool false)) (.cons (.val (.int .i64 0)) (.cons (.val (.int .i64 0)) .nil))))))))))))) [(0, 0, 46, (.t 21))]), .o 23 (.app 46 384 58 (.t 19) (.t 22)), .o 7 (.mv (.t 23))])
  (.ops [.o 24 (.mv (.t 7)), .o 25 (.fa 1 1 (.t 3)), .o 26 (.ld false 1 (.t 25)), .o 27 (.mv (.t 8)), .o 28 (.ixs 46 (.t 26) (.t 27)), .o 29 (.ld true 46 (.t 28)), .o 30 (.bsl 46 58 (.st (.cons (.val (.int .i64 0)) (.cons (.st (.cons (.val (.int .i64 0)) (.cons (.val (.int .i64 0)) (.cons (.val (.int .i64 0)) (.cons (.val (.int .i64 0)) (.cons (.val (.int .i64 0)) (.cons (.val (.int .i64 0)) .nil))))))) (.cons (.val (.slice none 0 0)) (.cons (.st (.cons (.arr 12 1 fun _ => (.val (.int .i64 0))) .nil)) (.cons (.st (.cons (.val (.int .i64 0)) (.cons (.val (.bool false)) (.cons (.val (.int .i64 0)) (.cons (.val (.int .i64 0)) (.cons (.val (.int .i64 0)) (.cons (.val (.int .i64 0)) (.cons (.val (.int .i64 0)) (.cons (.val (.int .i64 0)) (.cons (.val (.int .i64 0)) (.cons (.val (.int .i64 0)) (.cons (.val (.int .i64 0)) (.cons (.val (.int .i64 0)) (.cons (.val (.int .i64 0)) (.cons (.val (.int .i64 0)) (.cons (.val (.int .i64 0)) .nil)))))))))))))))) (.cons (.val (.int .i64 0)) (.cons (.val (.int .i64 0)) (.cons (.val (.int .i64 0)) (.cons (.st (.cons (.val (.int .i64 0)) (.cons (.val (.int .i64 0)) (.cons (.val (.int .i64 0)) (.cons (.val (.int .i64 0)) (.cons (.val (.int .i64 0)) .nil)))))) (.cons (.val (.bool false)) (.cons (.val (.int .i64 0)) (.cons (.val (.int .i64 0)) .nil))))))))))))) [(0, 0, 46, (.t 29))]), .o 31 (.app 46 384 58 (.t 24) (.t 30)), .o 7 (.mv (.t 31))]))))
  (.ops [.o 14 (.mv (.t 8)), .o 15 (.bin .add (.t 14) (.c (.int .i64 1))), .o 8 (.mv (.t 15))]))))))
  (.seq (.ops [.o 32 (.mv (.t 7)), .o 33 (.fa 1 1 (.t 3)), .n (.sto 1 (.t 33) (.t 32))])
  (.seq (.ops [.o 34 (.ld true 3 (.t 3)), .o 35 (.fa 2 51 (.t 5)), .o 36 (.ld false 1 (.t 35)), .o 37 (.call 29 [(.t 34), (.t 36)]), .n (.sto 3 (.t 6) (.t 37))])
  .ret)))))
theorem hc_r15_changed : compF Tryz.prog 38 Tryz.f33 = some (ic_r15_changed, [.c 6 true 3]) := by kernel_rfl

theorem fn_r15_numbers : Tryz.prog.funcs[r15_numbers]? = some Tryz.f34 := Tryz.func34
theorem nt_r15_numbers : Tryz.f34.ntmps = 105 := Tryz.ntmps34
def ic_r15_numbers : IC := (.seq (.ops [.o 2 (.box (.t 0)), .o 3 (.box (.t 1)), .o 4 (.mv (.c (.slice none 0 0)))])
  (.seq (.ops [.o 13 (.fa 0 0 (.t 3)), .o 14 (.ld true 46 (.t 13)), .o 5 (.alloc (.st (.cons (.val (.int .i64 0)) (.cons (.st (.cons (.val (.int .i64 0)) (.cons (.val (.int .i64 0)) (.cons (.val (.int .i64 0)) (.cons (.val (.int .i64 0)) (.cons (.val (.int .i64 0)) (.cons (.val (.int .i64 0)) .nil))))))) (.cons (.val (.slice none 0 0)) (.cons (.st (.cons (.arr 12 1 fun _ => (.val (.int .i64 0))) .nil)) (.cons (.st (.cons (.val (.int .i64 0)) (.cons (.val (.bool false)) (.cons (.val (.int .i64 0)) (.cons (.val (.int .i64 0)) (.cons (.val (.int .i64 0)) (.cons (.val (.int .i64 0)) (.cons (.val (.int .i64 0)) (.cons (.val (.int .i64 0)) (.cons (.val (.int .i64 0)) (.cons (.val (.int .i64 0)) (.cons (.val (.int .i64 0)) (.cons (.val (.int .i64 0)) (.cons (.val (.int .i64 0)) (.cons (.val (.int .i64 0)) (.cons (.val (.int .i64 0)) .nil)))))))))))))))) (.cons (.val (.int .i64 0)) (.cons (.val (.int .i64 0)) (.cons (.val (.int .i64 0)) (.cons (.st (.cons (.val (.int .i64 0)) (.cons (.val (.int .i64 0)) (.cons (.val (.int .i64 0)) (.cons (.val (.int .i64 0)) (.cons (.val (.int .i64 0)) .nil)))))) (.cons (.val (.bool false)) (.cons (.val (.int .i64 0)) (.cons (.val (.int .i64 0)) .nil)))))))))))))), .n (.sto 46 (.t 5) (.t 14))])
  (.seq (.ops [.o 15 (.fa 1 46 (.t 3)), .o 16 (.ld true 5 (.t 15)), .o 6 (.alloc (.st (.cons (.val (.int .i64 0)) (.cons (.val (.int .i64 0)) (.cons (.val (.int .i64 0)) (.cons (.val (.int .i64 0)) (.cons (.val (.int .i64 0)) .nil))))))), .n (.sto 5 (.t 6) (.t 16))])
  (.seq (.ops [.o 17 (.fa 4 20 (.t 5)), .o 18 (.fa 0 0 (.t 17)), .o 19 (.ld false 1 (.t 18)), .o 7 (.mv (.t 19))])
  (.seq (.ops [.o 8 (.mv (.c (.slice none 0 0)))])
  (.seq (.seq (.ops [.o 20 (.fa 0 0 (.t 2)), .o 21 (.ld false 1 (.t 20))])
  (.block 0 (.seq (.ops [.o 33 (.bin .eql (.t 21) (.c (.int .i64 2))), .o 32 (.mv (.t 33))])
  (.cond (.t 32)
  (.ops [.o 34 (.mv (.t 8)), .o 35 (.fa 0 0 (.t 6)), .o 36 (.ld false 1 (.t 35)), .o 37 (.fa 1 1 (.t 6)), .o 38 (.ld false 1 (.t 37)), .o 39 (.fa 2 2 (.t 6)), .o 40 (.ld false 1 (.t 39)), .o 41 (.fa 3 3 (.t 6)), .o 42 (.ld false 1 (.t 41)), .o 43 (.fa 4 4 (.t 6)), .o 44 (.ld false 1 (.t 43)), .o 45 (.mv (.t 7)), .o 46 (.bsl 1 2 (.val (.int .i64 0)) [(0, 0, 1, (.t 36)), (1, 1, 1, (.t 38)), (2, 2, 1, (.t 40)), (3, 3, 1, (.t 42)), (4, 4, 1, (.t 44)), (5, 5, 1, (.t 45))]), .o 47 (.app 1 8 2 (.t 34) (.t 46)), .o 8 (.mv (.t 47))])
  (.seq (.ops [.o 49 (.bin .eql (.t 21) (.c (.int .i64 3))), .o 48 (.mv (.t 49))])
  (.cond (.t 48)
  (.ops [.o 50 (.mv (.t 8)), .o 51 (.fa 0 0 (.t 6)), .o 52 (.ld false 1 (.t 51)), .o 53 (.fa 1 1 (.t 6)), .o 54 (.ld false 1 (.t 53)), .o 55 (.bin .add (.t 52) (.t 54)), .o 56 (.fa 2 2 (.t 6)), .o 57 (.ld false 1 (.t 56)), .o 58 (.bin .add (.t 55) (.t 57)), .o 59 (.fa 3 3 (.t 6)), .o 60 (.ld false 1 (.t 59)), .o 61 (.bin .add (.t 58) (.t 60)), .o 62 (.fa 4 4 (.t 6)), .o 63 (.ld false 1 (.t 62)), .o 64 (.bin .add (.t 61) (.t 63)), .o 65 (.mv (.t 7)), .o 66 (.bsl 1 2 (.val (.int .i64 0)) [(0, 0, 1, (.t 64)), (1, 1, 1, (.t 65))]), .o 67 (.app 1 8 2 (.t 50) (.t 66)), .o 8 (.mv (.t 67))])
  (.seq (.ops [.o 69 (.bin .eql (.t 21) (.c (.int .i64 4))), .o 68 (.mv (.t 69))])
  (.cond (.t 68)
  (.seq (.ops [.o 71 (.fa 3 8 (.t 5)), .o 72 (.ld true 12 (.t 71)), .o 73 (.call 55 [(.t 72), (.c (.int .i64 4))]), .o 70 (.mv (.t 73)), .o 74 (.ext 0 (.t 70)), .o 75 (.ext 1 (.t 70)), .o 9 (.mv (.t 74)), .o 10 (.mv (.t 75))])
  (.ops [.o 76 (.mv (.t 8)), .o 77 (.mv (.t 9)), .o 78 (.bsl 1 2 (.val (.int .i64 0)) [(0, 0, 1, (.t 77))]), .o 79 (.app 1 8 2 (.t 76) (.t 78)), .o 8 (.mv (.t 79))]))
  (.seq (.ops [.o 81 (.bin .eql (.t 21) (.c (.int .i64 5))), .o 80 (.mv (.t 81))])
  (.cond (.t 80)
  (.seq (.ops [.o 83 (.fa 3 8 (.t 5)), .o 84 (.ld true 12 (.t 83)), .o 85 (.call 55 [(.t 84), (.c (.int .i64 3))]), .o 82 (.mv (.t 85)), .o 86 (.ext 0 (.t 82)), .o 87 (.ext 1 (.t 82)), .o 11 (.mv (.t 86)), .o 12 (.mv (.t 87))])
  (.ops [.o 88 (.mv (.t 8)), .o 89 (.mv (.t 11)), .o 90 (.mv (.t 7)), .o 91 (.bsl 1 2 (.val (.int .i64 0)) [(0, 0, 1, (.t 89)), (1, 1, 1, (.t 90))]), .o 92 (.app 1 8 2 (.t 88) (.t 91)), .o 8 (.mv (.t 92))]))
  (.seq (.ops [.o 94 (.bin .eql (.t 21) (.c (.int .i64 6))), .o 93 (.mv (.t 94))])
  (.cond (.t 93)
  (.ops [.o 95 (.mv (.t 8)), .o 96 (.fa 4 20 (.t 5)), .o 97 (.fa 6 6 (.t 96)), .o 98 (.ld false 1 (.t 97)), .o 99 (.fa 4 20 (.t 5)), .o 100 (.fa 4 4 (.t 99)), .o 101 (.ld false 1 (.t 100)), .o 102 (.bsl 1 2 (.val (.int .i64 0)) [(0, 0, 1, (.t 98)), (1, 1, 1, (.t 101))]), .o 103 (.app 1 8 2 (.t 95) (.t 102)), .o 8 (.mv (.t 103))])
  (.seq (.ops [.o 22 (.mv (.t 8)), .o 23 (.fa 1 1 (.t 5)), .o 24 (.fa 1 1 (.t 23)), .o 25 (.ld false 1 (.t 24)), .o 26 (.bsl 1 2 (.val (.int .i64 0)) [(0, 0, 1, (.t 25))]), .o 27 (.app 1 8 2 (.t 22) (.t 26)), .o 8 (.mv (.t 27))])
  (.ops [.o 28 (.mv (.t 8)), .o 29 (.ld true 46 (.t 5)), .o 30 (.call 30 [(.t 29)]), .o 31 (.app 1 8 2 (.t 28) (.t 30)), .o 8 (.mv (.t 31))]))))))))))))))
  (.seq (.ops [.o 104 (.mv (.t 8)), .o 4 (.mv (.t 104))])
  .ret)))))))
theorem hc_r15_numbers : compF Tryz.prog 105 Tryz.f34 = some (ic_r15_numbers, [.t 4]) := by kernel_rfl

theorem fn_r1_high : Tryz.prog.funcs[r1_high]? = some Tryz.f37 := Tryz.func37
theorem nt_r1_high : Tryz.f37.ntmps = 5 := Tryz.ntmps37
def ic_r1_high : IC := (.seq (.ops [.o 2 (.mv (.c (.int .i64 0)))])
  (.seq (.ops [.o 3 (.mv (.t 0)), .o 4 (.bin .shr (.t 3) (.c (.int .u64 32))), .o 2 (.mv (.t 4))])
  .ret))
theorem hc_r1_high : compF Tryz.prog 5 Tryz.f37 = some (ic_r1_high, [.t 2]) := by kernel_rfl

theorem fn_r1_lowOf : Tryz.prog.funcs[r1_lowOf]? = some Tryz.f38 := Tryz.func38
theorem nt_r1_lowOf : Tryz.f38.ntmps = 8 := Tryz.ntmps38
def ic_r1_lowOf : IC := (.seq (.ops [.o 2 (.mv (.c (.int .i64 0)))])
  (.seq (.ops [.o 3 (.mv (.t 0)), .o 4 (.mv (.t 0)), .o 5 (.call 37 [(.t 4)]), .o 6 (.bin .mul (.t 5) (.c (.int .i64 4294967296))), .o 7 (.bin .sub (.t 3) (.t 6)), .o 2 (.mv (.t 7))])
  .ret))
theorem hc_r1_lowOf : compF Tryz.prog 8 Tryz.f38 = some (ic_r1_lowOf, [.t 2]) := by kernel_rfl

theorem fn_r1_joined : Tryz.prog.funcs[r1_joined]? = some Tryz.f39 := Tryz.func39
theorem nt_r1_joined : Tryz.f39.ntmps = 26 := Tryz.ntmps39
def ic_r1_joined : IC := (.seq (.ops [.o 4 (.mv (.c (.int .i64 0))), .o 5 (.mv (.c (.bool false)))])
  (.seq (.ops [.o 7 (.mv (.t 1)), .o 8 (.bin .shr (.t 7) (.c (.int .u64 32))), .o 6 (.mv (.t 8))])
  (.seq (.ops [.o 9 (.mv (.t 0)), .o 10 (.mv (.t 6)), .o 11 (.bin .add (.t 9) (.t 10)), .o 0 (.mv (.t 11))])
  (.seq (.ops [.o 12 (.mv (.t 1)), .o 13 (.mv (.t 6)), .o 14 (.bin .mul (.t 13) (.c (.int .i64 4294967296))), .o 15 (.bin .sub (.t 12) (.t 14)), .o 1 (.mv (.t 15))])
  (.seq (.seq (.ops [.o 16 (.mv (.t 0)), .o 17 (.bin .lss (.t 16) (.c (.int .i64 (-2147483648)))), .o 18 (.mv (.t 17)), .og 19 18 false (.mv (.t 0)), .og 20 18 false (.bin .gtr (.t 19) (.c (.int .i64 2147483647))), .o 21 (.pick (.t 18) (.c (.bool true)) (.t 20))])
  (.cond (.t 21)
  (.seq (.ops [.o 4 (.mv (.c (.int .i64 0))), .o 5 (.mv (.c (.bool false)))])
  .ret)
  .skip))
  (.seq (.ops [.o 22 (.mv (.t 0)), .o 23 (.bin .mul (.t 22) (.c (.int .i64 4294967296))), .o 24 (.mv (.t 1)), .o 25 (.bin .add (.t 23) (.t 24)), .o 4 (.mv (.t 25)), .o 5 (.mv (.c (.bool true)))])
  .ret))))))
theorem hc_r1_joined : compF Tryz.prog 26 Tryz.f39 = some (ic_r1_joined, [.t 4, .t 5]) := by kernel_rfl

theorem fn_r14_begin : Tryz.prog.funcs[r14_begin]? = some Tryz.f40 := Tryz.func40
theorem nt_r14_begin : Tryz.f40.ntmps = 17 := Tryz.ntmps40
def ic_r14_begin : IC := (.seq (.ops [.o 2 (.box (.t 0)), .o 3 (.box (.t 1)), .o 4 (.alloc (.st (.cons (.st (.cons (.val (.int .i64 0)) (.cons (.val (.int .i64 0)) (.cons (.val (.int .i64 0)) (.cons (.val (.int .i64 0)) (.cons (.val (.int .i64 0)) (.cons (.val (.int .i64 0)) (.cons (.val (.int .i64 0)) (.cons (.val (.int .i64 0)) (.cons (.val (.int .i64 0)) (.cons (.val (.int .i64 0)) (.cons (.val (.int .i64 0)) (.cons (.val (.int .i64 0)) (.cons (.val (.int .i64 0)) (.cons (.val (.int .i64 0)) (.cons (.val (.int .i64 0)) (.cons (.val (.int .i64 0)) (.cons (.val (.int .i64 0)) (.cons (.val (.slice none 0 0)) .nil))))))))))))))))))) (.cons (.st (.cons (.val (.int .i64 0)) (.cons (.st (.cons (.val (.int .i64 0)) (.cons (.val (.int .i64 0)) (.cons (.val (.int .i64 0)) (.cons (.val (.int .i64 0)) (.cons (.val (.int .i64 0)) (.cons (.val (.int .i64 0)) .nil))))))) (.cons (.val (.slice none 0 0)) (.cons (.st (.cons (.arr 12 1 fun _ => (.val (.int .i64 0))) .nil)) (.cons (.st (.cons (.val (.int .i64 0)) (.cons (.val (.bool false)) (.cons (.val (.int .i64 0)) (.cons (.val (.int .i64 0)) (.cons (.val (.int .i64 0)) (.cons (.val (.int .i64 0)) (.cons (.val (.int .i64 0)) (.cons (.val (.int .i64 0)) (.cons (.val (.int .i64 0)) (.cons (.val (.int .i64 0)) (.cons (.val (.int .i64 0)) (.cons (.val (.int .i64 0)) (.cons (.val (.int .i64 0)) (.cons (.val (.int .i64 0)) (.cons (.val (.int .i64 0)) .nil)))))))))))))))) (.cons (.val (.int .i64 0)) (.cons (.val (.int .i64 0)) (.cons (.val (.int .i64 0)) (.cons (.st (.cons (.val (.int .i64 0)) (.cons (.val (.int .i64 0)) (.cons (.val (.int .i64 0)) (.cons (.val (.int .i64 0)) (.cons (.val (.int .i64 0)) .nil)))))) (.cons (.val (.bool false)) (.cons (.val (.int .i64 0)) (.cons (.val (.int .i64 0)) .nil))))))))))))) (.cons (.st (.cons (.val (.int .i64 0)) (.cons (.val (.int .i64 0)) (.cons (.val (.int .i64 0)) (.cons (.val (.int .i64 0)) (.cons (.val (.int .i64 0)) .nil)))))) (.cons (.val (.slice none 0 0)) (.cons (.val (.int .i64 0)) .nil)))))))])
  (.seq (.ops [.o 8 (.ld true 18 (.t 2)), .o 9 (.call 9 [(.t 8)]), .o 7 (.mv (.t 9)), .o 10 (.ext 0 (.t 7)), .o 11 (.ext 1 (.t 7)), .o 5 (.mv (.t 10)), .o 6 (.mv (.t 11))])
  (.seq (.dops [.o 12 (.ld true 18 (.t 2)), .o 13 (.ld true 46 (.t 3)), .o 14 (.call 56 [(.t 13)]), .o 15 (.mv (.t 5)), .o 16 (.build (.st (.cons (.st (.cons (.val (.int .i64 0)) (.cons (.val (.int .i64 0)) (.cons (.val (.int .i64 0)) (.cons (.val (.int .i64 0)) (.cons (.val (.int .i64 0)) (.cons (.val (.int .i64 0)) (.cons (.val (.int .i64 0)) (.cons (.val (.int .i64 0)) (.cons (.val (.int .i64 0)) (.cons (.val (.int .i64 0)) (.cons (.val (.int .i64 0)) (.cons (.val (.int .i64 0)) (.cons (.val (.int .i64 0)) (.cons (.val (.int .i64 0)) (.cons (.val (.int .i64 0)) (.cons (.val (.int .i64 0)) (.cons (.val (.int .i64 0)) (.cons (.val (.slice none 0 0)) .nil))))))))))))))))))) (.cons (.st (.cons (.val (.int .i64 0)) (.cons (.st (.cons (.val (.int .i64 0)) (.cons (.val (.int .i64 0)) (.cons (.val (.int .i64 0)) (.cons (.val (.int .i64 0)) (.cons (.val (.int .i64 0)) (.cons (.val (.int .i64 0)) .nil))))))) (.cons (.val (.slice none 0 0)) (.cons (.st (.cons (.arr 12 1 fun _ => (.val (.int .i64 0))) .nil)) (.cons (.st (.cons (.val (.int .i64 0)) (.cons (.val (.bool false)) (.cons (.val (.int .i64 0)) (.cons (.val (.int .i64 0)) (.cons (.val (.int .i64 0)) (.cons (.val (.int .i64 0)) (.cons (.val (.int .i64 0)) (.cons (.val (.int .i64 0)) (.cons (.val (.int .i64 0)) (.cons (.val (.int .i64 0)) (.cons (.val (.int .i64 0)) (.cons (.val (.int .i64 0)) (.cons (.val (.int .i64 0)) (.cons (.val (.int .i64 0)) (.cons (.val (.int .i64 0)) .nil)))))))))))))))) (.cons (.val (.int .i64 0)) (.cons (.val (.int .i64 0)) (.cons (.val (.int .i64 0)) (.cons (.st (.cons (.val (.int .i64 0)) (.cons (.val (.int .i64 0)) (.cons (.val (.int .i64 0)) (.cons (.val (.int .i64 0)) (.cons (.val (.int .i64 0)) .nil)))))) (.cons (.val (.bool false)) (.cons (.val (.int .i64 0)) (.cons (.val (.int .i64 0)) .nil))))))))))))) (.cons (.st (.cons (.val (.int .i64 0)) (.cons (.val (.int .i64 0)) (.cons (.val (.int .i64 0)) (.cons (.val (.int .i64 0)) (.cons (.val (.int .i64 0)) .nil)))))) (.cons (.val (.slice none 0 0)) (.cons (.val (.int .i64 0)) .nil)))))) [(0, 0, 18, (.t 12)), (1, 18, 46, (.t 14)), (4, 70, 1, (.t 15))]), .n (.sto 71 (.t 4) (.t 16))])
  .ret)))
theorem hc_r14_begin : compF Tryz.prog 17 Tryz.f40 = some (ic_r14_begin, [.c 4 true 71]) := by kernel_rfl

theorem fn_r14_fail : Tryz.prog.funcs[r14_fail]? = some Tryz.f41 := Tryz.func41
theorem nt_r14_fail : Tryz.f41.ntmps = 16 := Tryz.ntmps41
def ic_r14_fail : IC := (.seq (.ops [.o 3 (.box (.t 0)), .o 6 (.alloc (.st (.cons (.st (.cons (.val (.int .i64 0)) (.cons (.val (.int .i64 0)) (.cons (.val (.int .i64 0)) (.cons (.val (.int .i64 0)) (.cons (.val (.int .i64 0)) (.cons (.val (.int .i64 0)) (.cons (.val (.int .i64 0)) (.cons (.val (.int .i64 0)) (.cons (.val (.int .i64 0)) (.cons (.val (.int .i64 0)) (.cons (.val (.int .i64 0)) (.cons (.val (.int .i64 0)) (.cons (.val (.int .i64 0)) (.cons (.val (.int .i64 0)) (.cons (.val (.int .i64 0)) (.cons (.val (.int .i64 0)) (.cons (.val (.int .i64 0)) (.cons (.val (.slice none 0 0)) .nil))))))))))))))))))) (.cons (.st (.cons (.val (.int .i64 0)) (.cons (.st (.cons (.val (.int .i64 0)) (.cons (.val (.int .i64 0)) (.cons (.val (.int .i64 0)) (.cons (.val (.int .i64 0)) (.cons (.val (.int .i64 0)) (.cons (.val (.int .i64 0)) .nil))))))) (.cons (.val (.slice none 0 0)) (.cons (.st (.cons (.arr 12 1 fun _ => (.val (.int .i64 0))) .nil)) (.cons (.st (.cons (.val (.int .i64 0)) (.cons (.val (.bool false)) (.cons (.val (.int .i64 0)) (.cons (.val (.int .i64 0)) (.cons (.val (.int .i64 0)) (.cons (.val (.int .i64 0)) (.cons (.val (.int .i64 0)) (.cons (.val (.int .i64 0)) (.cons (.val (.int .i64 0)) (.cons (.val (.int .i64 0)) (.cons (.val (.int .i64 0)) (.cons (.val (.int .i64 0)) (.cons (.val (.int .i64 0)) (.cons (.val (.int .i64 0)) (.cons (.val (.int .i64 0)) .nil)))))))))))))))) (.cons (.val (.int .i64 0)) (.cons (.val (.int .i64 0)) (.cons (.val (.int .i64 0)) (.cons (.st (.cons (.val (.int .i64 0)) (.cons (.val (.int .i64 0)) (.cons (.val (.int .i64 0)) (.cons (.val (.int .i64 0)) (.cons (.val (.int .i64 0)) .nil)))))) (.cons (.val (.bool false)) (.cons (.val (.int .i64 0)) (.cons (.val (.int .i64 0)) .nil))))))))))))) (.cons (.st (.cons (.val (.int .i64 0)) (.cons (.val (.int .i64 0)) (.cons (.val (.int .i64 0)) (.cons (.val (.int .i64 0)) (.cons (.val (.int .i64 0)) .nil)))))) (.cons (.val (.slice none 0 0)) (.cons (.val (.int .i64 0)) .nil)))))))])
  (.seq (.seq (.ops [.o 7 (.fa 4 70 (.t 3)), .o 8 (.ld false 1 (.t 7)), .o 9 (.bin .eql (.t 8) (.c (.int .i64 0))), .o 10 (.mv (.t 9)), .og 11 10 true (.mv (.t 1)), .o 12 (.pick (.t 10) (.t 11) (.c (.bool false)))])
  (.cond (.t 12)
  (.ops [.o 13 (.mv (.t 2)), .o 14 (.fa 4 70 (.t 3)), .n (.sto 1 (.t 14) (.t 13))])
  .skip))
  (.seq (.ops [.o 15 (.ld true 71 (.t 3)), .n (.sto 71 (.t 6) (.t 15))])
  .ret)))
theorem hc_r14_fail : compF Tryz.prog 16 Tryz.f41 = some (ic_r14_fail, [.c 6 true 71]) := by kernel_rfl

theorem fn_r14_wrong : Tryz.prog.funcs[r14_wrong]? = some Tryz.f42 := Tryz.func42
theorem nt_r14_wrong : Tryz.f42.ntmps = 59 := Tryz.ntmps42
def ic_r14_wrong : IC := (.seq (.ops [.o 1 (.box (.t 0)), .o 2 (.mv (.c (.bool false)))])
  (.seq (.seq (.ops [.o 3 (.fa 0 0 (.t 1)), .o 4 (.ld false 1 (.t 3)), .o 5 (.bin .lss (.t 4) (.c (.int .i64 0))), .o 6 (.mv (.t 5)), .og 7 6 false (.fa 0 0 (.t 1)), .og 8 6 false (.ld false 1 (.t 7)), .og 9 6 false (.bin .gtr (.t 8) (.c (.int .i64 2))), .o 10 (.pick (.t 6) (.c (.bool true)) (.t 9)), .o 11 (.mv (.t 10)), .og 12 11 false (.fa 1 1 (.t 1)), .og 13 11 false (.ld false 1 (.t 12)), .og 14 11 false (.bin .lss (.t 13) (.c (.int .i64 1))), .o 15 (.pick (.t 11) (.c (.bool true)) (.t 14)), .o 16 (.mv (.t 15)), .og 17 16 false (.fa 1 1 (.t 1)), .og 18 16 false (.ld false 1 (.t 17)), .og 19 16 false (.bin .gtr (.t 18) (.c (.int .i64 10000000000000))), .o 20 (.pick (.t 16) (.c (.bool true)) (.t 19)), .o 21 (.mv (.t 20)), .og 22 21 false (.fa 2 2 (.t 1)), .og 23 21 false (.ld false 1 (.t 22)), .og 24 21 false (.bin .lss (.t 23) (.c (.int .i64 0))), .o 25 (.pick (.t 21) (.c (.bool true)) (.t 24)), .o 26 (.mv (.t 25)), .og 27 26 false (.fa 2 2 (.t 1)), .og 28 26 false (.ld false 1 (.t 27)), .og 29 26 false (.bin .gtr (.t 28) (.c (.int .i64 100000))), .o 30 (.pick (.t 26) (.c (.bool true)) (.t 29))])
  (.cond (.t 30)
  (.seq (.ops [.o 2 (.mv (.c (.bool true)))])
  .ret)
  .skip))
  (.seq (.ops [.o 31 (.fa 3 3 (.t 1)), .o 32 (.ld false 1 (.t 31)), .o 33 (.bin .lss (.t 32) (.c (.int .i64 1))), .o 34 (.mv (.t 33)), .og 35 34 false (.fa 3 3 (.t 1)), .og 36 34 false (.ld false 1 (.t 35)), .og 37 34 false (.bin .gtr (.t 36) (.c (.int .i64 120))), .o 38 (.pick (.t 34) (.c (.bool true)) (.t 37)), .o 39 (.mv (.t 38)), .og 40 39 false (.fa 4 4 (.t 1)), .og 41 39 false (.ld false 1 (.t 40)), .og 42 39 false (.bin .lss (.t 41) (.c (.int .i64 1))), .o 43 (.pick (.t 39) (.c (.bool true)) (.t 42)), .o 44 (.mv (.t 43)), .og 45 44 false (.fa 4 4 (.t 1)), .og 46 44 false (.ld false 1 (.t 45)), .og 47 44 false (.bin .gtr (.t 46) (.c (.int .i64 3652059))), .o 48 (.pick (.t 44) (.c (.bool true)) (.t 47)), .o 49 (.mv (.t 48)), .og 50 49 false (.fa 5 5 (.t 1)), .og 51 49 false (.ld false 1 (.t 50)), .og 52 49 false (.bin .lss (.t 51) (.c (.int .i64 0))), .o 53 (.pick (.t 49) (.c (.bool true)) (.t 52)), .o 54 (.mv (.t 53)), .og 55 54 false (.fa 5 5 (.t 1)), .og 56 54 false (.ld false 1 (.t 55)), .og 57 54 false (.bin .gtr (.t 56) (.c (.int .i64 3))), .o 58 (.pick (.t 54) (.c (.bool true)) (.t 57)), .o 2 (.mv (.t 58))])
  .ret)))
theorem hc_r14_wrong : compF Tryz.prog 59 Tryz.f42 = some (ic_r14_wrong, [.t 2]) := by kernel_rfl

theorem fn_r3_Plan : Tryz.prog.funcs[r3_Plan]? = some Tryz.f43 := Tryz.func43
theorem nt_r3_Plan : Tryz.f43.ntmps = 81 := Tryz.ntmps43
def ic_r3_Plan : IC := (.seq (.ops [.o 2 (.box (.t 0)), .o 4 (.mv (.c (.slice none 0 0))), .o 5 (.mv (.c (.bool false)))])
  (.seq (.seq (.ops [.o 15 (.ld true 6 (.t 2)), .o 16 (.call 57 [(.t 15)]), .o 17 (.un .not (.t 16)), .o 18 (.mv (.t 17)), .og 19 18 false (.mv (.t 1)), .og 20 18 false (.len (.t 19)), .og 21 18 false (.bin .gtr (.t 20) (.c (.int .i64 64))), .o 22 (.pick (.t 18) (.c (.bool true)) (.t 21))])
  (.cond (.t 22)
  (.seq (.ops [.o 4 (.mv (.c (.slice none 0 0))), .o 5 (.mv (.c (.bool false)))])
  .ret)
  .skip))
  (.seq (.ops [.o 24 (.fa 1 1 (.t 2)), .o 25 (.ld false 1 (.t 24)), .o 26 (.fa 2 2 (.t 2)), .o 27 (.ld false 1 (.t 26)), .o 28 (.fa 3 3 (.t 2)), .o 29 (.ld false 1 (.t 28)), .o 30 (.call 58 [(.t 25), (.t 27), (.t 29)]), .o 23 (.mv (.t 30)), .o 31 (.ext 0 (.t 23)), .o 32 (.ext 1 (.t 23)), .o 6 (.mv (.t 31)), .o 7 (.mv (.t 32))])
  (.seq (.ops [.o 8 (.mv (.c (.slice none 0 0)))])
  (.seq (.ops [.o 33 (.fa 1 1 (.t 2)), .o 34 (.ld false 1 (.t 33)), .o 9 (.mv (.t 34))])
  (.seq (.seq (.ops [.o 10 (.mv (.c (.int .i64 1)))])
  (.block 0 (.loop (.seq (.seq (.ops [.o 35 (.mv (.t 10)), .o 36 (.fa 3 3 (.t 2)), .o 37 (.ld false 1 (.t 36)), .o 38 (.bin .leq (.t 35) (.t 37))])
  (.cond (.t 38)
  .skip
  (.exit 0)))
  (.seq (.block 1 (.seq (.ops [.o 41 (.mv (.t 9)), .o 42 (.fa 2 2 (.t 2)), .o 43 (.ld false 1 (.t 42)), .o 44 (.call 59 [(.t 41), (.t 43)]), .o 11 (.mv (.t 44))])
  (.seq (.ops [.o 45 (.ld true 6 (.t 2)), .o 46 (.mv (.t 6)), .o 47 (.mv (.t 10)), .o 48 (.mv (.t 9)), .o 49 (.mv (.t 11)), .o 50 (.call 60 [(.t 45), (.t 46), (.t 47), (.t 48), (.t 49)]), .o 12 (.mv (.t 50))])
  (.seq (.ops [.o 51 (.mv (.t 9)), .o 52 (.bin .gtr (.t 51) (.c (.int .i64 0))), .o 53 (.mv (.t 52)), .og 54 53 true (.mv (.t 11)), .og 55 53 true (.bin .gtr (.t 54) (.c (.int .i64 0))), .og 56 53 true (.mv (.t 55)), .og 57 56 false (.mv (.t 12)), .og 58 56 false (.bin .gtr (.t 57) (.c (.int .i64 0))), .og 59 53 true (.pick (.t 56) (.c (.bool true)) (.t 58)), .o 60 (.pick (.t 53) (.t 59) (.c (.bool false)))])
  (.cond (.t 60)
  (.seq (.ops [.o 62 (.ld true 6 (.t 2)), .o 63 (.mv (.t 1)), .o 64 (.mv (.t 10)), .o 65 (.call 61 [(.t 62), (.t 63), (.t 64)]), .o 61 (.mv (.t 65)), .o 66 (.ext 0 (.t 61)), .o 67 (.ext 1 (.t 61)), .o 13 (.mv (.t 66)), .o 14 (.mv (.t 67))])
  (.seq (.seq (.ops [.o 68 (.mv (.t 14)), .o 69 (.un .not (.t 68))])
  (.cond (.t 69)
  (.seq (.ops [.o 4 (.mv (.c (.slice none 0 0))), .o 5 (.mv (.c (.bool false)))])
  .ret)
  .skip))
  (.seq (.ops [.o 70 (.mv (.t 8)), .o 71 (.mv (.t 13)), .o 72 (.mv (.t 11)), .o 73 (.mv (.t 12)), .o 74 (.build (.st (.cons (.val (.int .i64 0)) (.cons (.val (.int .i64 0)) (.cons (.val (.int .i64 0)) (.cons (.val (.bool false)) .nil))))) [(0, 0, 1, (.t 71)), (1, 1, 1, (.t 72)), (2, 2, 1, (.t 73))]), .o 75 (.bsl 4 64 (.st (.cons (.val (.int .i64 0)) (.cons (.val (.int .i64 0)) (.cons (.val (.int .i64 0)) (.cons (.val (.bool false)) .nil))))) [(0, 0, 4, (.t 74))]), .o 76 (.app 4 32 64 (.t 70) (.t 75)), .o 8 (.mv (.t 76))])
  (.ops [.o 77 (.mv (.t 9)), .o 78 (.mv (.t 12)), .o 79 (.bin .sub (.t 77) (.t 78)), .o 9 (.mv (.t 79))]))))
  .skip)))))
  (.ops [.o 39 (.mv (.t 10)), .o 40 (.bin .add (.t 39) (.c (.int .i64 1))), .o 10 (.mv (.t 40))]))))))
  (.seq (.ops [.o 80 (.mv (.t 8)), .o 4 (.mv (.t 80)), .o 5 (.mv (.c (.bool true)))])
  .ret)))))))
theorem hc_r3_Plan : compF Tryz.prog 81 Tryz.f43 = some (ic_r3_Plan, [.t 4, .t 5]) := by kernel_rfl

theorem fn_r13_Fresh : Tryz.prog.funcs[r13_Fresh]? = some Tryz.f44 := Tryz.func44
theorem nt_r13_Fresh : Tryz.f44.ntmps = 2 := Tryz.ntmps44
def ic_r13_Fresh : IC := (.seq (.ops [.o 0 (.alloc (.st (.cons (.val (.int .i64 0)) (.cons (.val (.bool false)) (.cons (.val (.int .i64 0)) (.cons (.val (.int .i64 0)) (.cons (.val (.int .i64 0)) (.cons (.val (.int .i64 0)) (.cons (.val (.int .i64 0)) (.cons (.val (.int .i64 0)) (.cons (.val (.int .i64 0)) (.cons (.val (.int .i64 0)) (.cons (.val (.int .i64 0)) (.cons (.val (.int .i64 0)) (.cons (.val (.int .i64 0)) (.cons (.val (.int .i64 0)) (.cons (.val (.int .i64 0)) .nil)))))))))))))))))])
  (.seq (.ops [.o 1 (.build (.st (.cons (.val (.int .i64 0)) (.cons (.val (.bool false)) (.cons (.val (.int .i64 0)) (.cons (.val (.int .i64 0)) (.cons (.val (.int .i64 0)) (.cons (.val (.int .i64 0)) (.cons (.val (.int .i64 0)) (.cons (.val (.int .i64 0)) (.cons (.val (.int .i64 0)) (.cons (.val (.int .i64 0)) (.cons (.val (.int .i64 0)) (.cons (.val (.int .i64 0)) (.cons (.val (.int .i64 0)) (.cons (.val (.int .i64 0)) (.cons (.val (.int .i64 0)) .nil)))))))))))))))) [(0, 0, 1, (.c (.int .i64 1)))]), .n (.sto 15 (.t 0) (.t 1))])
  .ret))
theorem hc_r13_Fresh : compF Tryz.prog 2 Tryz.f44 = some (ic_r13_Fresh, [.c 0 true 15]) := by kernel_rfl

theorem fn_r14_posted : Tryz.prog.funcs[r14_posted]? = some Tryz.f45 := Tryz.func45
theorem nt_r14_posted : Tryz.f45.ntmps = 25 := Tryz.ntmps45
def ic_r14_posted : IC := (.seq (.ops [.o 2 (.box (.t 0)), .o 4 (.alloc (.st (.cons (.st (.cons (.val (.int .i64 0)) (.cons (.val (.int .i64 0)) (.cons (.val (.int .i64 0)) (.cons (.val (.int .i64 0)) (.cons (.val (.int .i64 0)) (.cons (.val (.int .i64 0)) (.cons (.val (.int .i64 0)) (.cons (.val (.int .i64 0)) (.cons (.val (.int .i64 0)) (.cons (.val (.int .i64 0)) (.cons (.val (.int .i64 0)) (.cons (.val (.int .i64 0)) (.cons (.val (.int .i64 0)) (.cons (.val (.int .i64 0)) (.cons (.val (.int .i64 0)) (.cons (.val (.int .i64 0)) (.cons (.val (.int .i64 0)) (.cons (.val (.slice none 0 0)) .nil))))))))))))))))))) (.cons (.st (.cons (.val (.int .i64 0)) (.cons (.st (.cons (.val (.int .i64 0)) (.cons (.val (.int .i64 0)) (.cons (.val (.int .i64 0)) (.cons (.val (.int .i64 0)) (.cons (.val (.int .i64 0)) (.cons (.val (.int .i64 0)) .nil))))))) (.cons (.val (.slice none 0 0)) (.cons (.st (.cons (.arr 12 1 fun _ => (.val (.int .i64 0))) .nil)) (.cons (.st (.cons (.val (.int .i64 0)) (.cons (.val (.bool false)) (.cons (.val (.int .i64 0)) (.cons (.val (.int .i64 0)) (.cons (.val (.int .i64 0)) (.cons (.val (.int .i64 0)) (.cons (.val (.int .i64 0)) (.cons (.val (.int .i64 0)) (.cons (.val (.int .i64 0)) (.cons (.val (.int .i64 0)) (.cons (.val (.int .i64 0)) (.cons (.val (.int .i64 0)) (.cons (.val (.int .i64 0)) (.cons (.val (.int .i64 0)) (.cons (.val (.int .i64 0)) .nil)))))))))))))))) (.cons (.val (.int .i64 0)) (.cons (.val (.int .i64 0)) (.cons (.val (.int .i64 0)) (.cons (.st (.cons (.val (.int .i64 0)) (.cons (.val (.int .i64 0)) (.cons (.val (.int .i64 0)) (.cons (.val (.int .i64 0)) (.cons (.val (.int .i64 0)) .nil)))))) (.cons (.val (.bool false)) (.cons (.val (.int .i64 0)) (.cons (.val (.int .i64 0)) .nil))))))))))))) (.cons (.st (.cons (.val (.int .i64 0)) (.cons (.val (.int .i64 0)) (.cons (.val (.int .i64 0)) (.cons (.val (.int .i64 0)) (.cons (.val (.int .i64 0)) .nil)))))) (.cons (.val (.slice none 0 0)) (.cons (.val (.int .i64 0)) .nil)))))))])
  (.seq (.seq (.ops [.o 7 (.fa 4 70 (.t 2)), .o 8 (.ld false 1 (.t 7)), .o 9 (.bin .neq (.t 8) (.c (.int .i64 0)))])
  (.cond (.t 9)
  (.seq (.ops [.o 10 (.ld true 71 (.t 2)), .n (.sto 71 (.t 4) (.t 10))])
  .ret)
  .skip))
  (.seq (.ops [.o 12 (.fa 1 18 (.t 2)), .o 13 (.fa 3 8 (.t 12)), .o 14 (.ld true 12 (.t 13)), .o 15 (.mv (.t 1)), .o 16 (.call 62 [(.t 14), (.t 15)]), .o 11 (.mv (.t 16)), .o 17 (.ext 0 (.t 11)), .o 18 (.ext 1 (.t 11)), .o 5 (.alloc (.st (.cons (.arr 12 1 fun _ => (.val (.int .i64 0))) .nil))), .n (.sto 12 (.t 5) (.t 17)), .o 6 (.mv (.t 18))])
  (.seq (.ops [.o 19 (.ld true 12 (.t 5)), .o 20 (.fa 1 18 (.t 2)), .o 21 (.fa 3 8 (.t 20)), .n (.sto 12 (.t 21) (.t 19))])
  (.seq (.ops [.o 22 (.mv (.t 6)), .o 23 (.fa 4 70 (.t 2)), .n (.sto 1 (.t 23) (.t 22))])
  (.seq (.ops [.o 24 (.ld true 71 (.t 2)), .n (.sto 71 (.t 4) (.t 24))])
  .ret))))))
theorem hc_r14_posted : compF Tryz.prog 25 Tryz.f45 = some (ic_r14_posted, [.c 4 true 71]) := by kernel_rfl

theorem fn_r14_move : Tryz.prog.funcs[r14_move]? = some Tryz.f46 := Tryz.func46
theorem nt_r14_move : Tryz.f46.ntmps = 19 := Tryz.ntmps46
def ic_r14_move : IC := (.seq (.ops [.o 8 (.mv (.c (.slice none 0 0)))])
  (.seq (.seq (.ops [.o 9 (.mv (.t 3)), .o 10 (.bin .eql (.t 9) (.c (.int .i64 0)))])
  (.cond (.t 10)
  (.seq (.ops [.o 11 (.mv (.t 0)), .o 8 (.mv (.t 11))])
  .ret)
  .skip))
  (.seq (.ops [.o 12 (.mv (.t 0)), .o 13 (.mv (.t 1)), .o 14 (.mv (.t 2)), .o 15 (.mv (.t 3)), .o 16 (.build (.st (.cons (.val (.int .i64 0)) (.cons (.val (.int .i64 0)) (.cons (.val (.int .i64 0)) .nil)))) [(0, 0, 1, (.t 13)), (1, 1, 1, (.t 14)), (2, 2, 1, (.t 15))]), .o 17 (.bsl 3 122 (.st (.cons (.val (.int .i64 0)) (.cons (.val (.int .i64 0)) (.cons (.val (.int .i64 0)) .nil)))) [(0, 0, 3, (.t 16))]), .o 18 (.app 3 24 122 (.t 12) (.t 17)), .o 8 (.mv (.t 18))])
  .ret)))
theorem hc_r14_move : compF Tryz.prog 19 Tryz.f46 = some (ic_r14_move, [.t 8]) := by kernel_rfl

theorem fn_r14_done : Tryz.prog.funcs[r14_done]? = some Tryz.f47 := Tryz.func47
theorem nt_r14_done : Tryz.f47.ntmps = 20 := Tryz.ntmps47
def ic_r14_done : IC := (.seq (.ops [.o 2 (.box (.t 0)), .o 3 (.box (.t 1)), .o 4 (.alloc (.st (.cons (.st (.cons (.val (.int .i64 0)) (.cons (.st (.cons (.val (.int .i64 0)) (.cons (.val (.int .i64 0)) (.cons (.val (.int .i64 0)) (.cons (.val (.int .i64 0)) (.cons (.val (.int .i64 0)) (.cons (.val (.int .i64 0)) .nil))))))) (.cons (.val (.slice none 0 0)) (.cons (.st (.cons (.arr 12 1 fun _ => (.val (.int .i64 0))) .nil)) (.cons (.st (.cons (.val (.int .i64 0)) (.cons (.val (.bool false)) (.cons (.val (.int .i64 0)) (.cons (.val (.int .i64 0)) (.cons (.val (.int .i64 0)) (.cons (.val (.int .i64 0)) (.cons (.val (.int .i64 0)) (.cons (.val (.int .i64 0)) (.cons (.val (.int .i64 0)) (.cons (.val (.int .i64 0)) (.cons (.val (.int .i64 0)) (.cons (.val (.int .i64 0)) (.cons (.val (.int .i64 0)) (.cons (.val (.int .i64 0)) (.cons (.val (.int .i64 0)) .nil)))))))))))))))) (.cons (.val (.int .i64 0)) (.cons (.val (.int .i64 0)) (.cons (.val (.int .i64 0)) (.cons (.st (.cons (.val (.int .i64 0)) (.cons (.val (.int .i64 0)) (.cons (.val (.int .i64 0)) (.cons (.val (.int .i64 0)) (.cons (.val (.int .i64 0)) .nil)))))) (.cons (.val (.bool false)) (.cons (.val (.int .i64 0)) (.cons (.val (.int .i64 0)) .nil))))))))))))) (.cons (.st (.cons (.val (.int .i64 0)) (.cons (.val (.int .i64 0)) (.cons (.val (.int .i64 0)) (.cons (.val (.int .i64 0)) (.cons (.val (.int .i64 0)) .nil)))))) (.cons (.val (.slice none 0 0)) (.cons (.val (.int .i64 0)) .nil))))))])
  (.seq (.seq (.ops [.o 5 (.fa 4 70 (.t 2)), .o 6 (.ld false 1 (.t 5)), .o 7 (.bin .neq (.t 6) (.c (.int .i64 0)))])
  (.cond (.t 7)
  (.seq (.dops [.o 8 (.ld true 46 (.t 3)), .o 9 (.call 56 [(.t 8)]), .o 10 (.fa 4 70 (.t 2)), .o 11 (.ld false 1 (.t 10)), .o 12 (.build (.st (.cons (.st (.cons (.val (.int .i64 0)) (.cons (.st (.cons (.val (.int .i64 0)) (.cons (.val (.int .i64 0)) (.cons (.val (.int .i64 0)) (.cons (.val (.int .i64 0)) (.cons (.val (.int .i64 0)) (.cons (.val (.int .i64 0)) .nil))))))) (.cons (.val (.slice none 0 0)) (.cons (.st (.cons (.arr 12 1 fun _ => (.val (.int .i64 0))) .nil)) (.cons (.st (.cons (.val (.int .i64 0)) (.cons (.val (.bool false)) (.cons (.val (.int .i64 0)) (.cons (.val (.int .i64 0)) (.cons (.val (.int .i64 0)) (.cons (.val (.int .i64 0)) (.cons (.val (.int .i64 0)) (.cons (.val (.int .i64 0)) (.cons (.val (.int .i64 0)) (.cons (.val (.int .i64 0)) (.cons (.val (.int .i64 0)) (.cons (.val (.int .i64 0)) (.cons (.val (.int .i64 0)) (.cons (.val (.int .i64 0)) (.cons (.val (.int .i64 0)) .nil)))))))))))))))) (.cons (.val (.int .i64 0)) (.cons (.val (.int .i64 0)) (.cons (.val (.int .i64 0)) (.cons (.st (.cons (.val (.int .i64 0)) (.cons (.val (.int .i64 0)) (.cons (.val (.int .i64 0)) (.cons (.val (.int .i64 0)) (.cons (.val (.int .i64 0)) .nil)))))) (.cons (.val (.bool false)) (.cons (.val (.int .i64 0)) (.cons (.val (.int .i64 0)) .nil))))))))))))) (.cons (.st (.cons (.val (.int .i64 0)) (.cons (.val (.int .i64 0)) (.cons (.val (.int .i64 0)) (.cons (.val (.int .i64 0)) (.cons (.val (.int .i64 0)) .nil)))))) (.cons (.val (.slice none 0 0)) (.cons (.val (.int .i64 0)) .nil))))) [(0, 0, 46, (.t 9)), (3, 52, 1, (.t 11))]), .n (.sto 53 (.t 4) (.t 12))])
  .ret)
  .skip))
  (.seq (.ops [.o 13 (.fa 1 18 (.t 2)), .o 14 (.ld true 46 (.t 13)), .o 15 (.fa 2 64 (.t 2)), .o 16 (.ld true 5 (.t 15)), .o 17 (.fa 3 69 (.t 2)), .o 18 (.ld false 1 (.t 17)), .o 19 (.build (.st (.cons (.st (.cons (.val (.int .i64 0)) (.cons (.st (.cons (.val (.int .i64 0)) (.cons (.val (.int .i64 0)) (.cons (.val (.int .i64 0)) (.cons (.val (.int .i64 0)) (.cons (.val (.int .i64 0)) (.cons (.val (.int .i64 0)) .nil))))))) (.cons (.val (.slice none 0 0)) (.cons (.st (.cons (.arr 12 1 fun _ => (.val (.int .i64 0))) .nil)) (.cons (.st (.cons (.val (.int .i64 0)) (.cons (.val (.bool false)) (.cons (.val (.int .i64 0)) (.cons (.val (.int .i64 0)) (.cons (.val (.int .i64 0)) (.cons (.val (.int .i64 0)) (.cons (.val (.int .i64 0)) (.cons (.val (.int .i64 0)) (.cons (.val (.int .i64 0)) (.cons (.val (.int .i64 0)) (.cons (.val (.int .i64 0)) (.cons (.val (.int .i64 0)) (.cons (.val (.int .i64 0)) (.cons (.val (.int .i64 0)) (.cons (.val (.int .i64 0)) .nil)))))))))))))))) (.cons (.val (.int .i64 0)) (.cons (.val (.int .i64 0)) (.cons (.val (.int .i64 0)) (.cons (.st (.cons (.val (.int .i64 0)) (.cons (.val (.int .i64 0)) (.cons (.val (.int .i64 0)) (.cons (.val (.int .i64 0)) (.cons (.val (.int .i64 0)) .nil)))))) (.cons (.val (.bool false)) (.cons (.val (.int .i64 0)) (.cons (.val (.int .i64 0)) .nil))))))))))))) (.cons (.st (.cons (.val (.int .i64 0)) (.cons (.val (.int .i64 0)) (.cons (.val (.int .i64 0)) (.cons (.val (.int .i64 0)) (.cons (.val (.int .i64 0)) .nil)))))) (.cons (.val (.slice none 0 0)) (.cons (.val (.int .i64 0)) .nil))))) [(0, 0, 46, (.t 14)), (1, 46, 5, (.t 16)), (2, 51, 1, (.t 18))]), .n (.sto 53 (.t 4) (.t 19))])
  .ret)))
theorem hc_r14_done : compF Tryz.prog 20 Tryz.f47 = some (ic_r14_done, [.c 4 true 53]) := by kernel_rfl

theorem fn_r14_Roll : Tryz.prog.funcs[r14_Roll]? = some Tryz.f48 := Tryz.func48
theorem nt_r14_Roll : Tryz.f48.ntmps = 39 := Tryz.ntmps48
def ic_r14_Roll : IC := (.seq (.ops [.o 2 (.box (.t 0)), .o 3 (.box (.t 1)), .o 4 (.alloc (.st (.cons (.st (.cons (.val (.int .i64 0)) (.cons (.st (.cons (.val (.int .i64 0)) (.cons (.val (.int .i64 0)) (.cons (.val (.int .i64 0)) (.cons (.val (.int .i64 0)) (.cons (.val (.int .i64 0)) (.cons (.val (.int .i64 0)) .nil))))))) (.cons (.val (.slice none 0 0)) (.cons (.st (.cons (.arr 12 1 fun _ => (.val (.int .i64 0))) .nil)) (.cons (.st (.cons (.val (.int .i64 0)) (.cons (.val (.bool false)) (.cons (.val (.int .i64 0)) (.cons (.val (.int .i64 0)) (.cons (.val (.int .i64 0)) (.cons (.val (.int .i64 0)) (.cons (.val (.int .i64 0)) (.cons (.val (.int .i64 0)) (.cons (.val (.int .i64 0)) (.cons (.val (.int .i64 0)) (.cons (.val (.int .i64 0)) (.cons (.val (.int .i64 0)) (.cons (.val (.int .i64 0)) (.cons (.val (.int .i64 0)) (.cons (.val (.int .i64 0)) .nil)))))))))))))))) (.cons (.val (.int .i64 0)) (.cons (.val (.int .i64 0)) (.cons (.val (.int .i64 0)) (.cons (.st (.cons (.val (.int .i64 0)) (.cons (.val (.int .i64 0)) (.cons (.val (.int .i64 0)) (.cons (.val (.int .i64 0)) (.cons (.val (.int .i64 0)) .nil)))))) (.cons (.val (.bool false)) (.cons (.val (.int .i64 0)) (.cons (.val (.int .i64 0)) .nil))))))))))))) (.cons (.st (.cons (.val (.int .i64 0)) (.cons (.val (.int .i64 0)) (.cons (.val (.int .i64 0)) (.cons (.val (.int .i64 0)) (.cons (.val (.int .i64 0)) .nil)))))) (.cons (.val (.slice none 0 0)) (.cons (.val (.int .i64 0)) .nil))))))])
  (.seq (.ops [.o 6 (.ld true 18 (.t 2)), .o 7 (.ld true 46 (.t 3)), .o 8 (.call 40 [(.t 6), (.t 7)]), .o 5 (.alloc (.st (.cons (.st (.cons (.val (.int .i64 0)) (.cons (.val (.int .i64 0)) (.cons (.val (.int .i64 0)) (.cons (.val (.int .i64 0)) (.cons (.val (.int .i64 0)) (.cons (.val (.int .i64 0)) (.cons (.val (.int .i64 0)) (.cons (.val (.int .i64 0)) (.cons (.val (.int .i64 0)) (.cons (.val (.int .i64 0)) (.cons (.val (.int .i64 0)) (.cons (.val (.int .i64 0)) (.cons (.val (.int .i64 0)) (.cons (.val (.int .i64 0)) (.cons (.val (.int .i64 0)) (.cons (.val (.int .i64 0)) (.cons (.val (.int .i64 0)) (.cons (.val (.slice none 0 0)) .nil))))))))))))))))))) (.cons (.st (.cons (.val (.int .i64 0)) (.cons (.st (.cons (.val (.int .i64 0)) (.cons (.val (.int .i64 0)) (.cons (.val (.int .i64 0)) (.cons (.val (.int .i64 0)) (.cons (.val (.int .i64 0)) (.cons (.val (.int .i64 0)) .nil))))))) (.cons (.val (.slice none 0 0)) (.cons (.st (.cons (.arr 12 1 fun _ => (.val (.int .i64 0))) .nil)) (.cons (.st (.cons (.val (.int .i64 0)) (.cons (.val (.bool false)) (.cons (.val (.int .i64 0)) (.cons (.val (.int .i64 0)) (.cons (.val (.int .i64 0)) (.cons (.val (.int .i64 0)) (.cons (.val (.int .i64 0)) (.cons (.val (.int .i64 0)) (.cons (.val (.int .i64 0)) (.cons (.val (.int .i64 0)) (.cons (.val (.int .i64 0)) (.cons (.val (.int .i64 0)) (.cons (.val (.int .i64 0)) (.cons (.val (.int .i64 0)) (.cons (.val (.int .i64 0)) .nil)))))))))))))))) (.cons (.val (.int .i64 0)) (.cons (.val (.int .i64 0)) (.cons (.val (.int .i64 0)) (.cons (.st (.cons (.val (.int .i64 0)) (.cons (.val (.int .i64 0)) (.cons (.val (.int .i64 0)) (.cons (.val (.int .i64 0)) (.cons (.val (.int .i64 0)) .nil)))))) (.cons (.val (.bool false)) (.cons (.val (.int .i64 0)) (.cons (.val (.int .i64 0)) .nil))))))))))))) (.cons (.st (.cons (.val (.int .i64 0)) (.cons (.val (.int .i64 0)) (.cons (.val (.int .i64 0)) (.cons (.val (.int .i64 0)) (.cons (.val (.int .i64 0)) .nil)))))) (.cons (.val (.slice none 0 0)) (.cons (.val (.int .i64 0)) .nil))))))), .n (.sto 71 (.t 5) (.t 8))])
  (.seq (.ops [.o 9 (.ld true 71 (.t 5)), .o 10 (.fa 5 35 (.t 3)), .o 11 (.ld false 1 (.t 10)), .o 12 (.bin .geq (.t 11) (.c (.int .i64 3652059))), .o 13 (.call 41 [(.t 9), (.t 12), (.c (.int .i64 141))]), .n (.sto 71 (.t 5) (.t 13))])
  (.seq (.ops [.o 14 (.ld true 71 (.t 5)), .o 15 (.call 63 [(.t 14), (.c (.int .i64 1))]), .n (.sto 71 (.t 5) (.t 15))])
  (.seq (.seq (.ops [.o 16 (.fa 4 70 (.t 5)), .o 17 (.ld false 1 (.t 16)), .o 18 (.bin .neq (.t 17) (.c (.int .i64 0))), .o 19 (.mv (.t 18)), .og 20 19 false (.ld true 46 (.t 3)), .og 21 19 false (.call 64 [(.t 20)]), .o 22 (.pick (.t 19) (.c (.bool true)) (.t 21))])
  (.cond (.t 22)
  (.seq (.ops [.o 23 (.ld true 71 (.t 5)), .o 24 (.ld true 46 (.t 3)), .o 25 (.call 47 [(.t 23), (.t 24)]), .n (.sto 53 (.t 4) (.t 25))])
  .ret)
  .skip))
  (.seq (.dops [.o 26 (.ld true 71 (.t 5)), .o 27 (.fa 1 18 (.t 5)), .o 28 (.fa 5 35 (.t 27)), .o 29 (.ld false 1 (.t 28)), .o 30 (.fa 1 18 (.t 5)), .o 31 (.ld true 46 (.t 30)), .o 32 (.call 66 [(.t 31)]), .o 33 (.build (.st (.cons (.val (.int .i64 0)) (.cons (.val (.int .i64 0)) (.cons (.val (.int .i64 0)) (.cons (.val (.int .i64 0)) .nil))))) [(0, 0, 1, (.c (.int .i64 1))), (1, 1, 1, (.t 29)), (2, 2, 1, (.t 32))]), .o 34 (.call 65 [(.t 26), (.t 33)]), .n (.sto 71 (.t 5) (.t 34))])
  (.seq (.dops [.o 35 (.ld true 71 (.t 5)), .o 36 (.call 67 [(.t 35)]), .o 37 (.ld true 46 (.t 3)), .o 38 (.call 47 [(.t 36), (.t 37)]), .n (.sto 53 (.t 4) (.t 38))])
  .ret)))))))
theorem hc_r14_Roll : compF Tryz.prog 39 Tryz.f48 = some (ic_r14_Roll, [.c 4 true 53]) := by kernel_rfl

theorem fn_r14_Pay : Tryz.prog.funcs[r14_Pay]? = some Tryz.f49 := Tryz.func49
theorem nt_r14_Pay : Tryz.f49.ntmps = 72 := Tryz.ntmps49
def ic_r14_Pay : IC := (.seq (.ops [.o 3 (.box (.t 0)), .o 4 (.box (.t 1)), .o 6 (.alloc (.st (.cons (.st (.cons (.val (.int .i64 0)) (.cons (.st (.cons (.val (.int .i64 0)) (.cons (.val (.int .i64 0)) (.cons (.val (.int .i64 0)) (.cons (.val (.int .i64 0)) (.cons (.val (.int .i64 0)) (.cons (.val (.int .i64 0)) .nil))))))) (.cons (.val (.slice none 0 0)) (.cons (.st (.cons (.arr 12 1 fun _ => (.val (.int .i64 0))) .nil)) (.cons (.st (.cons (.val (.int .i64 0)) (.cons (.val (.bool false)) (.cons (.val (.int .i64 0)) (.cons (.val (.int .i64 0)) (.cons (.val (.int .i64 0)) (.cons (.val (.int .i64 0)) (.cons (.val (.int .i64 0)) (.cons (.val (.int .i64 0)) (.cons (.val (.int .i64 0)) (.cons (.val (.int .i64 0)) (.cons (.val (.int .i64 0)) (.cons (.val (.int .i64 0)) (.cons (.val (.int .i64 0)) (.cons (.val (.int .i64 0)) (.cons (.val (.int .i64 0)) .nil)))))))))))))))) (.cons (.val (.int .i64 0)) (.cons (.val (.int .i64 0)) (.cons (.val (.int .i64 0)) (.cons (.st (.cons (.val (.int .i64 0)) (.cons (.val (.int .i64 0)) (.cons (.val (.int .i64 0)) (.cons (.val (.int .i64 0)) (.cons (.val (.int .i64 0)) .nil)))))) (.cons (.val (.bool false)) (.cons (.val (.int .i64 0)) (.cons (.val (.int .i64 0)) .nil))))))))))))) (.cons (.st (.cons (.val (.int .i64 0)) (.cons (.val (.int .i64 0)) (.cons (.val (.int .i64 0)) (.cons (.val (.int .i64 0)) (.cons (.val (.int .i64 0)) .nil)))))) (.cons (.val (.slice none 0 0)) (.cons (.val (.int .i64 0)) .nil))))))])
  (.seq (.ops [.o 10 (.ld true 18 (.t 3)), .o 11 (.ld true 46 (.t 4)), .o 12 (.call 40 [(.t 10), (.t 11)]), .o 7 (.alloc (.st (.cons (.st (.cons (.val (.int .i64 0)) (.cons (.val (.int .i64 0)) (.cons (.val (.int .i64 0)) (.cons (.val (.int .i64 0)) (.cons (.val (.int .i64 0)) (.cons (.val (.int .i64 0)) (.cons (.val (.int .i64 0)) (.cons (.val (.int .i64 0)) (.cons (.val (.int .i64 0)) (.cons (.val (.int .i64 0)) (.cons (.val (.int .i64 0)) (.cons (.val (.int .i64 0)) (.cons (.val (.int .i64 0)) (.cons (.val (.int .i64 0)) (.cons (.val (.int .i64 0)) (.cons (.val (.int .i64 0)) (.cons (.val (.int .i64 0)) (.cons (.val (.slice none 0 0)) .nil))))))))))))))))))) (.cons (.st (.cons (.val (.int .i64 0)) (.cons (.st (.cons (.val (.int .i64 0)) (.cons (.val (.int .i64 0)) (.cons (.val (.int .i64 0)) (.cons (.val (.int .i64 0)) (.cons (.val (.int .i64 0)) (.cons (.val (.int .i64 0)) .nil))))))) (.cons (.val (.slice none 0 0)) (.cons (.st (.cons (.arr 12 1 fun _ => (.val (.int .i64 0))) .nil)) (.cons (.st (.cons (.val (.int .i64 0)) (.cons (.val (.bool false)) (.cons (.val (.int .i64 0)) (.cons (.val (.int .i64 0)) (.cons (.val (.int .i64 0)) (.cons (.val (.int .i64 0)) (.cons (.val (.int .i64 0)) (.cons (.val (.int .i64 0)) (.cons (.val (.int .i64 0)) (.cons (.val (.int .i64 0)) (.cons (.val (.int .i64 0)) (.cons (.val (.int .i64 0)) (.cons (.val (.int .i64 0)) (.cons (.val (.int .i64 0)) (.cons (.val (.int .i64 0)) .nil)))))))))))))))) (.cons (.val (.int .i64 0)) (.cons (.val (.int .i64 0)) (.cons (.val (.int .i64 0)) (.cons (.st (.cons (.val (.int .i64 0)) (.cons (.val (.int .i64 0)) (.cons (.val (.int .i64 0)) (.cons (.val (.int .i64 0)) (.cons (.val (.int .i64 0)) .nil)))))) (.cons (.val (.bool false)) (.cons (.val (.int .i64 0)) (.cons (.val (.int .i64 0)) .nil))))))))))))) (.cons (.st (.cons (.val (.int .i64 0)) (.cons (.val (.int .i64 0)) (.cons (.val (.int .i64 0)) (.cons (.val (.int .i64 0)) (.cons (.val (.int .i64 0)) .nil)))))) (.cons (.val (.slice none 0 0)) (.cons (.val (.int .i64 0)) .nil))))))), .n (.sto 71 (.t 7) (.t 12))])
  (.seq (.ops [.o 13 (.ld true 71 (.t 7)), .o 14 (.mv (.t 2)), .o 15 (.bin .lss (.t 14) (.c (.int .i64 1))), .o 16 (.call 41 [(.t 13), (.t 15), (.c (.int .i64 4))]), .n (.sto 71 (.t 7) (.t 16))])
  (.seq (.ops [.o 18 (.ld true 18 (.t 3)), .o 19 (.ld true 46 (.t 4)), .o 20 (.mv (.t 2)), .o 21 (.call 68 [(.t 18), (.t 19), (.t 20)]), .o 17 (.mv (.t 21)), .o 22 (.ext 0 (.t 17)), .o 23 (.ext 1 (.t 17)), .o 8 (.alloc (.st (.cons (.val (.int .i64 0)) (.cons (.val (.int .i64 0)) (.cons (.val (.int .i64 0)) (.cons (.val (.int .i64 0)) (.cons (.val (.int .i64 0)) .nil))))))), .n (.sto 5 (.t 8) (.t 22)), .o 9 (.mv (.t 23))])
  (.seq (.ops [.o 24 (.ld true 71 (.t 7)), .o 25 (.mv (.t 9)), .o 26 (.bin .neq (.t 25) (.c (.int .i64 0))), .o 27 (.mv (.t 9)), .o 28 (.call 41 [(.t 24), (.t 26), (.t 27)]), .n (.sto 71 (.t 7) (.t 28))])
  (.seq (.dops [.o 29 (.ld true 71 (.t 7)), .o 30 (.ld true 5 (.t 8)), .o 31 (.call 69 [(.t 30)]), .o 32 (.call 45 [(.t 29), (.t 31)]), .n (.sto 71 (.t 7) (.t 32))])
  (.seq (.ops [.o 33 (.ld true 5 (.t 8)), .o 34 (.fa 2 64 (.t 7)), .n (.sto 5 (.t 34) (.t 33))])
  (.seq (.seq (.ops [.o 35 (.fa 4 70 (.t 7)), .o 36 (.ld false 1 (.t 35)), .o 37 (.bin .neq (.t 36) (.c (.int .i64 0))), .o 38 (.mv (.t 37)), .og 39 38 false (.ld true 46 (.t 4)), .og 40 38 false (.call 64 [(.t 39)]), .o 41 (.pick (.t 38) (.c (.bool true)) (.t 40))])
  (.cond (.t 41)
  (.seq (.ops [.o 42 (.ld true 71 (.t 7)), .o 43 (.ld true 46 (.t 4)), .o 44 (.call 47 [(.t 42), (.t 43)]), .n (.sto 53 (.t 6) (.t 44))])
  .ret)
  .skip))
  (.seq (.ops [.o 45 (.fa 1 18 (.t 7)), .o 46 (.fa 7 37 (.t 45)), .o 47 (.ld false 1 (.t 46)), .o 48 (.fa 1 1 (.t 8)), .o 49 (.ld false 1 (.t 48)), .o 50 (.bin .add (.t 47) (.t 49)), .o 51 (.fa 2 2 (.t 8)), .o 52 (.ld false 1 (.t 51)), .o 53 (.bin .add (.t 50) (.t 52)), .o 54 (.fa 1 18 (.t 7)), .o 55 (.fa 7 37 (.t 54)), .n (.sto 1 (.t 55) (.t 53))])
  (.seq (.ops [.o 56 (.ld true 5 (.t 8)), .o 57 (.fa 1 18 (.t 7)), .o 58 (.fa 8 38 (.t 57)), .n (.sto 5 (.t 58) (.t 56))])
  (.seq (.ops [.o 59 (.fa 1 18 (.t 7)), .o 60 (.fa 9 43 (.t 59)), .n (.sto 1 (.t 60) (.c (.bool true)))])
  (.seq (.dops [.o 61 (.ld true 71 (.t 7)), .o 62 (.mv (.t 2)), .o 63 (.fa 1 18 (.t 7)), .o 64 (.ld true 46 (.t 63)), .o 65 (.call 66 [(.t 64)]), .o 66 (.build (.st (.cons (.val (.int .i64 0)) (.cons (.val (.int .i64 0)) (.cons (.val (.int .i64 0)) (.cons (.val (.int .i64 0)) .nil))))) [(0, 0, 1, (.c (.int .i64 2))), (3, 3, 1, (.t 62)), (2, 2, 1, (.t 65))]), .o 67 (.call 65 [(.t 61), (.t 66)]), .n (.sto 71 (.t 7) (.t 67))])
  (.seq (.dops [.o 68 (.ld true 71 (.t 7)), .o 69 (.call 70 [(.t 68)]), .o 70 (.ld true 46 (.t 4)), .o 71 (.call 47 [(.t 69), (.t 70)]), .n (.sto 53 (.t 6) (.t 71))])
  .ret)))))))))))))
theorem hc_r14_Pay : compF Tryz.prog 72 Tryz.f49 = some (ic_r14_Pay, [.c 6 true 53]) := by kernel_rfl

theorem fn_r14_Return : Tryz.prog.funcs[r14_Return]? = some Tryz.f50 := Tryz.func50
theorem nt_r14_Return : Tryz.f50.ntmps = 63 := Tryz.ntmps50
def ic_r14_Return : IC := (.seq (.ops [.o 2 (.box (.t 0)), .o 3 (.box (.t 1)), .o 4 (.alloc (.st (.cons (.st (.cons (.val (.int .i64 0)) (.cons (.st (.cons (.val (.int .i64 0)) (.cons (.val (.int .i64 0)) (.cons (.val (.int .i64 0)) (.cons (.val (.int .i64 0)) (.cons (.val (.int .i64 0)) (.cons (.val (.int .i64 0)) .nil))))))) (.cons (.val (.slice none 0 0)) (.cons (.st (.cons (.arr 12 1 fun _ => (.val (.int .i64 0))) .nil)) (.cons (.st (.cons (.val (.int .i64 0)) (.cons (.val (.bool false)) (.cons (.val (.int .i64 0)) (.cons (.val (.int .i64 0)) (.cons (.val (.int .i64 0)) (.cons (.val (.int .i64 0)) (.cons (.val (.int .i64 0)) (.cons (.val (.int .i64 0)) (.cons (.val (.int .i64 0)) (.cons (.val (.int .i64 0)) (.cons (.val (.int .i64 0)) (.cons (.val (.int .i64 0)) (.cons (.val (.int .i64 0)) (.cons (.val (.int .i64 0)) (.cons (.val (.int .i64 0)) .nil)))))))))))))))) (.cons (.val (.int .i64 0)) (.cons (.val (.int .i64 0)) (.cons (.val (.int .i64 0)) (.cons (.st (.cons (.val (.int .i64 0)) (.cons (.val (.int .i64 0)) (.cons (.val (.int .i64 0)) (.cons (.val (.int .i64 0)) (.cons (.val (.int .i64 0)) .nil)))))) (.cons (.val (.bool false)) (.cons (.val (.int .i64 0)) (.cons (.val (.int .i64 0)) .nil))))))))))))) (.cons (.st (.cons (.val (.int .i64 0)) (.cons (.val (.int .i64 0)) (.cons (.val (.int .i64 0)) (.cons (.val (.int .i64 0)) (.cons (.val (.int .i64 0)) .nil)))))) (.cons (.val (.slice none 0 0)) (.cons (.val (.int .i64 0)) .nil))))))])
  (.seq (.ops [.o 8 (.ld true 18 (.t 2)), .o 9 (.ld true 46 (.t 3)), .o 10 (.call 40 [(.t 8), (.t 9)]), .o 5 (.alloc (.st (.cons (.st (.cons (.val (.int .i64 0)) (.cons (.val (.int .i64 0)) (.cons (.val (.int .i64 0)) (.cons (.val (.int .i64 0)) (.cons (.val (.int .i64 0)) (.cons (.val (.int .i64 0)) (.cons (.val (.int .i64 0)) (.cons (.val (.int .i64 0)) (.cons (.val (.int .i64 0)) (.cons (.val (.int .i64 0)) (.cons (.val (.int .i64 0)) (.cons (.val (.int .i64 0)) (.cons (.val (.int .i64 0)) (.cons (.val (.int .i64 0)) (.cons (.val (.int .i64 0)) (.cons (.val (.int .i64 0)) (.cons (.val (.int .i64 0)) (.cons (.val (.slice none 0 0)) .nil))))))))))))))))))) (.cons (.st (.cons (.val (.int .i64 0)) (.cons (.st (.cons (.val (.int .i64 0)) (.cons (.val (.int .i64 0)) (.cons (.val (.int .i64 0)) (.cons (.val (.int .i64 0)) (.cons (.val (.int .i64 0)) (.cons (.val (.int .i64 0)) .nil))))))) (.cons (.val (.slice none 0 0)) (.cons (.st (.cons (.arr 12 1 fun _ => (.val (.int .i64 0))) .nil)) (.cons (.st (.cons (.val (.int .i64 0)) (.cons (.val (.bool false)) (.cons (.val (.int .i64 0)) (.cons (.val (.int .i64 0)) (.cons (.val (.int .i64 0)) (.cons (.val (.int .i64 0)) (.cons (.val (.int .i64 0)) (.cons (.val (.int .i64 0)) (.cons (.val (.int .i64 0)) (.cons (.val (.int .i64 0)) (.cons (.val (.int .i64 0)) (.cons (.val (.int .i64 0)) (.cons (.val (.int .i64 0)) (.cons (.val (.int .i64 0)) (.cons (.val (.int .i64 0)) .nil)))))))))))))))) (.cons (.val (.int .i64 0)) (.cons (.val (.int .i64 0)) (.cons (.val (.int .i64 0)) (.cons (.st (.cons (.val (.int .i64 0)) (.cons (.val (.int .i64 0)) (.cons (.val (.int .i64 0)) (.cons (.val (.int .i64 0)) (.cons (.val (.int .i64 0)) .nil)))))) (.cons (.val (.bool false)) (.cons (.val (.int .i64 0)) (.cons (.val (.int .i64 0)) .nil))))))))))))) (.cons (.st (.cons (.val (.int .i64 0)) (.cons (.val (.int .i64 0)) (.cons (.val (.int .i64 0)) (.cons (.val (.int .i64 0)) (.cons (.val (.int .i64 0)) .nil)))))) (.cons (.val (.slice none 0 0)) (.cons (.val (.int .i64 0)) .nil))))))), .n (.sto 71 (.t 5) (.t 10))])
  (.seq (.dops [.o 11 (.ld true 71 (.t 5)), .o 12 (.ld true 46 (.t 3)), .o 13 (.call 64 [(.t 12)]), .o 14 (.call 41 [(.t 11), (.t 13), (.c (.int .i64 130))]), .n (.sto 71 (.t 5) (.t 14))])
  (.seq (.ops [.o 15 (.ld true 71 (.t 5)), .o 16 (.fa 9 43 (.t 3)), .o 17 (.ld false 1 (.t 16)), .o 18 (.un .not (.t 17)), .o 19 (.call 41 [(.t 15), (.t 18), (.c (.int .i64 142))]), .n (.sto 71 (.t 5) (.t 19))])
  (.seq (.ops [.o 20 (.fa 8 38 (.t 3)), .o 21 (.ld true 5 (.t 20)), .o 6 (.alloc (.st (.cons (.val (.int .i64 0)) (.cons (.val (.int .i64 0)) (.cons (.val (.int .i64 0)) (.cons (.val (.int .i64 0)) (.cons (.val (.int .i64 0)) .nil))))))), .n (.sto 5 (.t 6) (.t 21))])
  (.seq (.ops [.o 22 (.fa 0 0 (.t 6)), .o 23 (.ld false 1 (.t 22)), .o 24 (.fa 1 1 (.t 6)), .o 25 (.ld false 1 (.t 24)), .o 26 (.bin .add (.t 23) (.t 25)), .o 27 (.fa 2 2 (.t 6)), .o 28 (.ld false 1 (.t 27)), .o 29 (.bin .add (.t 26) (.t 28)), .o 30 (.fa 3 3 (.t 6)), .o 31 (.ld false 1 (.t 30)), .o 32 (.bin .add (.t 29) (.t 31)), .o 33 (.fa 4 4 (.t 6)), .o 34 (.ld false 1 (.t 33)), .o 35 (.bin .add (.t 32) (.t 34)), .o 7 (.mv (.t 35))])
  (.seq (.dops [.o 36 (.ld true 71 (.t 5)), .o 37 (.ld true 5 (.t 6)), .o 38 (.call 71 [(.t 37)]), .o 39 (.call 45 [(.t 36), (.t 38)]), .n (.sto 71 (.t 5) (.t 39))])
  (.seq (.ops [.o 40 (.fa 1 18 (.t 5)), .o 41 (.fa 7 37 (.t 40)), .o 42 (.ld false 1 (.t 41)), .o 43 (.fa 1 1 (.t 6)), .o 44 (.ld false 1 (.t 43)), .o 45 (.bin .sub (.t 42) (.t 44)), .o 46 (.fa 2 2 (.t 6)), .o 47 (.ld false 1 (.t 46)), .o 48 (.bin .sub (.t 45) (.t 47)), .o 49 (.fa 1 18 (.t 5)), .o 50 (.fa 7 37 (.t 49)), .n (.sto 1 (.t 50) (.t 48))])
  (.seq (.ops [.o 51 (.ld true 5 (.t 6)), .o 52 (.fa 2 64 (.t 5)), .n (.sto 5 (.t 52) (.t 51))])
  (.seq (.ops [.o 53 (.ld true 71 (.t 5)), .o 54 (.mv (.t 7)), .o 55 (.build (.st (.cons (.val (.int .i64 0)) (.cons (.val (.int .i64 0)) (.cons (.val (.int .i64 0)) (.cons (.val (.int .i64 0)) .nil))))) [(0, 0, 1, (.c (.int .i64 3))), (3, 3, 1, (.t 54))]), .o 56 (.call 65 [(.t 53), (.t 55)]), .n (.sto 71 (.t 5) (.t 56))])
  (.seq (.dops [.o 57 (.ld true 71 (.t 5)), .o 58 (.mv (.t 7)), .o 59 (.call 73 [(.t 57), (.c (.int .i64 9)), (.t 58)]), .o 60 (.call 72 [(.t 59)]), .o 61 (.ld true 46 (.t 3)), .o 62 (.call 47 [(.t 60), (.t 61)]), .n (.sto 53 (.t 4) (.t 62))])
  .ret)))))))))))
theorem hc_r14_Return : compF Tryz.prog 63 Tryz.f50 = some (ic_r14_Return, [.c 4 true 53]) := by kernel_rfl

theorem fn_r14_Refund : Tryz.prog.funcs[r14_Refund]? = some Tryz.f51 := Tryz.func51
theorem nt_r14_Refund : Tryz.f51.ntmps = 27 := Tryz.ntmps51
def ic_r14_Refund : IC := (.seq (.ops [.o 3 (.box (.t 0)), .o 4 (.box (.t 1)), .o 6 (.alloc (.st (.cons (.st (.cons (.val (.int .i64 0)) (.cons (.st (.cons (.val (.int .i64 0)) (.cons (.val (.int .i64 0)) (.cons (.val (.int .i64 0)) (.cons (.val (.int .i64 0)) (.cons (.val (.int .i64 0)) (.cons (.val (.int .i64 0)) .nil))))))) (.cons (.val (.slice none 0 0)) (.cons (.st (.cons (.arr 12 1 fun _ => (.val (.int .i64 0))) .nil)) (.cons (.st (.cons (.val (.int .i64 0)) (.cons (.val (.bool false)) (.cons (.val (.int .i64 0)) (.cons (.val (.int .i64 0)) (.cons (.val (.int .i64 0)) (.cons (.val (.int .i64 0)) (.cons (.val (.int .i64 0)) (.cons (.val (.int .i64 0)) (.cons (.val (.int .i64 0)) (.cons (.val (.int .i64 0)) (.cons (.val (.int .i64 0)) (.cons (.val (.int .i64 0)) (.cons (.val (.int .i64 0)) (.cons (.val (.int .i64 0)) (.cons (.val (.int .i64 0)) .nil)))))))))))))))) (.cons (.val (.int .i64 0)) (.cons (.val (.int .i64 0)) (.cons (.val (.int .i64 0)) (.cons (.st (.cons (.val (.int .i64 0)) (.cons (.val (.int .i64 0)) (.cons (.val (.int .i64 0)) (.cons (.val (.int .i64 0)) (.cons (.val (.int .i64 0)) .nil)))))) (.cons (.val (.bool false)) (.cons (.val (.int .i64 0)) (.cons (.val (.int .i64 0)) .nil))))))))))))) (.cons (.st (.cons (.val (.int .i64 0)) (.cons (.val (.int .i64 0)) (.cons (.val (.int .i64 0)) (.cons (.val (.int .i64 0)) (.cons (.val (.int .i64 0)) .nil)))))) (.cons (.val (.slice none 0 0)) (.cons (.val (.int .i64 0)) .nil))))))])
  (.seq (.ops [.o 8 (.ld true 18 (.t 3)), .o 9 (.ld true 46 (.t 4)), .o 10 (.call 40 [(.t 8), (.t 9)]), .o 7 (.alloc (.st (.cons (.st (.cons (.val (.int .i64 0)) (.cons (.val (.int .i64 0)) (.cons (.val (.int .i64 0)) (.cons (.val (.int .i64 0)) (.cons (.val (.int .i64 0)) (.cons (.val (.int .i64 0)) (.cons (.val (.int .i64 0)) (.cons (.val (.int .i64 0)) (.cons (.val (.int .i64 0)) (.cons (.val (.int .i64 0)) (.cons (.val (.int .i64 0)) (.cons (.val (.int .i64 0)) (.cons (.val (.int .i64 0)) (.cons (.val (.int .i64 0)) (.cons (.val (.int .i64 0)) (.cons (.val (.int .i64 0)) (.cons (.val (.int .i64 0)) (.cons (.val (.slice none 0 0)) .nil))))))))))))))))))) (.cons (.st (.cons (.val (.int .i64 0)) (.cons (.st (.cons (.val (.int .i64 0)) (.cons (.val (.int .i64 0)) (.cons (.val (.int .i64 0)) (.cons (.val (.int .i64 0)) (.cons (.val (.int .i64 0)) (.cons (.val (.int .i64 0)) .nil))))))) (.cons (.val (.slice none 0 0)) (.cons (.st (.cons (.arr 12 1 fun _ => (.val (.int .i64 0))) .nil)) (.cons (.st (.cons (.val (.int .i64 0)) (.cons (.val (.bool false)) (.cons (.val (.int .i64 0)) (.cons (.val (.int .i64 0)) (.cons (.val (.int .i64 0)) (.cons (.val (.int .i64 0)) (.cons (.val (.int .i64 0)) (.cons (.val (.int .i64 0)) (.cons (.val (.int .i64 0)) (.cons (.val (.int .i64 0)) (.cons (.val (.int .i64 0)) (.cons (.val (.int .i64 0)) (.cons (.val (.int .i64 0)) (.cons (.val (.int .i64 0)) (.cons (.val (.int .i64 0)) .nil)))))))))))))))) (.cons (.val (.int .i64 0)) (.cons (.val (.int .i64 0)) (.cons (.val (.int .i64 0)) (.cons (.st (.cons (.val (.int .i64 0)) (.cons (.val (.int .i64 0)) (.cons (.val (.int .i64 0)) (.cons (.val (.int .i64 0)) (.cons (.val (.int .i64 0)) .nil)))))) (.cons (.val (.bool false)) (.cons (.val (.int .i64 0)) (.cons (.val (.int .i64 0)) .nil))))))))))))) (.cons (.st (.cons (.val (.int .i64 0)) (.cons (.val (.int .i64 0)) (.cons (.val (.int .i64 0)) (.cons (.val (.int .i64 0)) (.cons (.val (.int .i64 0)) .nil)))))) (.cons (.val (.slice none 0 0)) (.cons (.val (.int .i64 0)) .nil))))))), .n (.sto 71 (.t 7) (.t 10))])
  (.seq (.ops [.o 11 (.ld true 71 (.t 7)), .o 12 (.mv (.t 2)), .o 13 (.bin .lss (.t 12) (.c (.int .i64 1))), .o 14 (.call 41 [(.t 11), (.t 13), (.c (.int .i64 4))]), .n (.sto 71 (.t 7) (.t 14))])
  (.seq (.dops [.o 15 (.ld true 71 (.t 7)), .o 16 (.mv (.t 2)), .o 17 (.ld true 46 (.t 4)), .o 18 (.call 74 [(.t 17), (.c (.int .i64 4))]), .o 19 (.bin .gtr (.t 16) (.t 18)), .o 20 (.call 41 [(.t 15), (.t 19), (.c (.int .i64 143))]), .n (.sto 71 (.t 7) (.t 20))])
  (.seq (.dops [.o 21 (.ld true 71 (.t 7)), .o 22 (.mv (.t 2)), .o 23 (.call 46 [(.c (.slice none 0 0)), (.c (.int .i64 4)), (.c (.int .i64 0)), (.t 22)]), .o 24 (.call 45 [(.t 21), (.t 23)]), .o 25 (.ld true 46 (.t 4)), .o 26 (.call 47 [(.t 24), (.t 25)]), .n (.sto 53 (.t 6) (.t 26))])
  .ret)))))
theorem hc_r14_Refund : compF Tryz.prog 27 Tryz.f51 = some (ic_r14_Refund, [.c 6 true 53]) := by kernel_rfl

theorem fn_r14_Waive : Tryz.prog.funcs[r14_Waive]? = some Tryz.f52 := Tryz.func52
theorem nt_r14_Waive : Tryz.f52.ntmps = 33 := Tryz.ntmps52
def ic_r14_Waive : IC := (.seq (.ops [.o 3 (.box (.t 0)), .o 4 (.box (.t 1)), .o 6 (.alloc (.st (.cons (.st (.cons (.val (.int .i64 0)) (.cons (.st (.cons (.val (.int .i64 0)) (.cons (.val (.int .i64 0)) (.cons (.val (.int .i64 0)) (.cons (.val (.int .i64 0)) (.cons (.val (.int .i64 0)) (.cons (.val (.int .i64 0)) .nil))))))) (.cons (.val (.slice none 0 0)) (.cons (.st (.cons (.arr 12 1 fun _ => (.val (.int .i64 0))) .nil)) (.cons (.st (.cons (.val (.int .i64 0)) (.cons (.val (.bool false)) (.cons (.val (.int .i64 0)) (.cons (.val (.int .i64 0)) (.cons (.val (.int .i64 0)) (.cons (.val (.int .i64 0)) (.cons (.val (.int .i64 0)) (.cons (.val (.int .i64 0)) (.cons (.val (.int .i64 0)) (.cons (.val (.int .i64 0)) (.cons (.val (.int .i64 0)) (.cons (.val (.int .i64 0)) (.cons (.val (.int .i64 0)) (.cons (.val (.int .i64 0)) (.cons (.val (.int .i64 0)) .nil)))))))))))))))) (.cons (.val (.int .i64 0)) (.cons (.val (.int .i64 0)) (.cons (.val (.int .i64 0)) (.cons (.st (.cons (.val (.int .i64 0)) (.cons (.val (.int .i64 0)) (.cons (.val (.int .i64 0)) (.cons (.val (.int .i64 0)) (.cons (.val (.int .i64 0)) .nil)))))) (.cons (.val (.bool false)) (.cons (.val (.int .i64 0)) (.cons (.val (.int .i64 0)) .nil))))))))))))) (.cons (.st (.cons (.val (.int .i64 0)) (.cons (.val (.int .i64 0)) (.cons (.val (.int .i64 0)) (.cons (.val (.int .i64 0)) (.cons (.val (.int .i64 0)) .nil)))))) (.cons (.val (.slice none 0 0)) (.cons (.val (.int .i64 0)) .nil))))))])
  (.seq (.ops [.o 8 (.ld true 18 (.t 3)), .o 9 (.ld true 46 (.t 4)), .o 10 (.call 40 [(.t 8), (.t 9)]), .o 7 (.alloc (.st (.cons (.st (.cons (.val (.int .i64 0)) (.cons (.val (.int .i64 0)) (.cons (.val (.int .i64 0)) (.cons (.val (.int .i64 0)) (.cons (.val (.int .i64 0)) (.cons (.val (.int .i64 0)) (.cons (.val (.int .i64 0)) (.cons (.val (.int .i64 0)) (.cons (.val (.int .i64 0)) (.cons (.val (.int .i64 0)) (.cons (.val (.int .i64 0)) (.cons (.val (.int .i64 0)) (.cons (.val (.int .i64 0)) (.cons (.val (.int .i64 0)) (.cons (.val (.int .i64 0)) (.cons (.val (.int .i64 0)) (.cons (.val (.int .i64 0)) (.cons (.val (.slice none 0 0)) .nil))))))))))))))))))) (.cons (.st (.cons (.val (.int .i64 0)) (.cons (.st (.cons (.val (.int .i64 0)) (.cons (.val (.int .i64 0)) (.cons (.val (.int .i64 0)) (.cons (.val (.int .i64 0)) (.cons (.val (.int .i64 0)) (.cons (.val (.int .i64 0)) .nil))))))) (.cons (.val (.slice none 0 0)) (.cons (.st (.cons (.arr 12 1 fun _ => (.val (.int .i64 0))) .nil)) (.cons (.st (.cons (.val (.int .i64 0)) (.cons (.val (.bool false)) (.cons (.val (.int .i64 0)) (.cons (.val (.int .i64 0)) (.cons (.val (.int .i64 0)) (.cons (.val (.int .i64 0)) (.cons (.val (.int .i64 0)) (.cons (.val (.int .i64 0)) (.cons (.val (.int .i64 0)) (.cons (.val (.int .i64 0)) (.cons (.val (.int .i64 0)) (.cons (.val (.int .i64 0)) (.cons (.val (.int .i64 0)) (.cons (.val (.int .i64 0)) (.cons (.val (.int .i64 0)) .nil)))))))))))))))) (.cons (.val (.int .i64 0)) (.cons (.val (.int .i64 0)) (.cons (.val (.int .i64 0)) (.cons (.st (.cons (.val (.int .i64 0)) (.cons (.val (.int .i64 0)) (.cons (.val (.int .i64 0)) (.cons (.val (.int .i64 0)) (.cons (.val (.int .i64 0)) .nil)))))) (.cons (.val (.bool false)) (.cons (.val (.int .i64 0)) (.cons (.val (.int .i64 0)) .nil))))))))))))) (.cons (.st (.cons (.val (.int .i64 0)) (.cons (.val (.int .i64 0)) (.cons (.val (.int .i64 0)) (.cons (.val (.int .i64 0)) (.cons (.val (.int .i64 0)) .nil)))))) (.cons (.val (.slice none 0 0)) (.cons (.val (.int .i64 0)) .nil))))))), .n (.sto 71 (.t 7) (.t 10))])
  (.seq (.ops [.o 11 (.ld true 71 (.t 7)), .o 12 (.mv (.t 2)), .o 13 (.bin .lss (.t 12) (.c (.int .i64 1))), .o 14 (.call 41 [(.t 11), (.t 13), (.c (.int .i64 4))]), .n (.sto 71 (.t 7) (.t 14))])
  (.seq (.dops [.o 15 (.ld true 71 (.t 7)), .o 16 (.ld true 46 (.t 4)), .o 17 (.call 64 [(.t 16)]), .o 18 (.call 41 [(.t 15), (.t 17), (.c (.int .i64 130))]), .n (.sto 71 (.t 7) (.t 18))])
  (.seq (.dops [.o 19 (.ld true 71 (.t 7)), .o 20 (.mv (.t 2)), .o 21 (.ld true 46 (.t 4)), .o 22 (.call 74 [(.t 21), (.c (.int .i64 3))]), .o 23 (.bin .gtr (.t 20) (.t 22)), .o 24 (.call 41 [(.t 19), (.t 23), (.c (.int .i64 143))]), .n (.sto 71 (.t 7) (.t 24))])
  (.seq (.dops [.o 25 (.ld true 71 (.t 7)), .o 26 (.mv (.t 2)), .o 27 (.call 46 [(.c (.slice none 0 0)), (.c (.int .i64 11)), (.c (.int .i64 3)), (.t 26)]), .o 28 (.call 45 [(.t 25), (.t 27)]), .n (.sto 71 (.t 7) (.t 28))])
  (.seq (.dops [.o 29 (.ld true 71 (.t 7)), .o 30 (.call 70 [(.t 29)]), .o 31 (.ld true 46 (.t 4)), .o 32 (.call 47 [(.t 30), (.t 31)]), .n (.sto 53 (.t 6) (.t 32))])
  .ret)))))))
theorem hc_r14_Waive : compF Tryz.prog 33 Tryz.f52 = some (ic_r14_Waive, [.c 6 true 53]) := by kernel_rfl

theorem fn_r14_Promise : Tryz.prog.funcs[r14_Promise]? = some Tryz.f53 := Tryz.func53
theorem nt_r14_Promise : Tryz.f53.ntmps = 22 := Tryz.ntmps53
def ic_r14_Promise : IC := (.seq (.ops [.o 4 (.box (.t 0)), .o 5 (.box (.t 1)), .o 8 (.alloc (.st (.cons (.st (.cons (.val (.int .i64 0)) (.cons (.st (.cons (.val (.int .i64 0)) (.cons (.val (.int .i64 0)) (.cons (.val (.int .i64 0)) (.cons (.val (.int .i64 0)) (.cons (.val (.int .i64 0)) (.cons (.val (.int .i64 0)) .nil))))))) (.cons (.val (.slice none 0 0)) (.cons (.st (.cons (.arr 12 1 fun _ => (.val (.int .i64 0))) .nil)) (.cons (.st (.cons (.val (.int .i64 0)) (.cons (.val (.bool false)) (.cons (.val (.int .i64 0)) (.cons (.val (.int .i64 0)) (.cons (.val (.int .i64 0)) (.cons (.val (.int .i64 0)) (.cons (.val (.int .i64 0)) (.cons (.val (.int .i64 0)) (.cons (.val (.int .i64 0)) (.cons (.val (.int .i64 0)) (.cons (.val (.int .i64 0)) (.cons (.val (.int .i64 0)) (.cons (.val (.int .i64 0)) (.cons (.val (.int .i64 0)) (.cons (.val (.int .i64 0)) .nil)))))))))))))))) (.cons (.val (.int .i64 0)) (.cons (.val (.int .i64 0)) (.cons (.val (.int .i64 0)) (.cons (.st (.cons (.val (.int .i64 0)) (.cons (.val (.int .i64 0)) (.cons (.val (.int .i64 0)) (.cons (.val (.int .i64 0)) (.cons (.val (.int .i64 0)) .nil)))))) (.cons (.val (.bool false)) (.cons (.val (.int .i64 0)) (.cons (.val (.int .i64 0)) .nil))))))))))))) (.cons (.st (.cons (.val (.int .i64 0)) (.cons (.val (.int .i64 0)) (.cons (.val (.int .i64 0)) (.cons (.val (.int .i64 0)) (.cons (.val (.int .i64 0)) .nil)))))) (.cons (.val (.slice none 0 0)) (.cons (.val (.int .i64 0)) .nil))))))])
  (.seq (.dops [.o 10 (.ld true 18 (.t 4)), .o 11 (.ld true 46 (.t 5)), .o 12 (.call 40 [(.t 10), (.t 11)]), .o 13 (.fa 5 35 (.t 5)), .o 14 (.ld false 1 (.t 13)), .o 15 (.mv (.t 3)), .o 16 (.mv (.t 2)), .o 17 (.build (.st (.cons (.val (.int .i64 0)) (.cons (.val (.int .i64 0)) (.cons (.val (.int .i64 0)) (.cons (.val (.int .i64 0)) .nil))))) [(0, 0, 1, (.c (.int .i64 4))), (1, 1, 1, (.t 14)), (2, 2, 1, (.t 15)), (3, 3, 1, (.t 16))]), .o 18 (.call 65 [(.t 12), (.t 17)]), .o 9 (.alloc (.st (.cons (.st (.cons (.val (.int .i64 0)) (.cons (.val (.int .i64 0)) (.cons (.val (.int .i64 0)) (.cons (.val (.int .i64 0)) (.cons (.val (.int .i64 0)) (.cons (.val (.int .i64 0)) (.cons (.val (.int .i64 0)) (.cons (.val (.int .i64 0)) (.cons (.val (.int .i64 0)) (.cons (.val (.int .i64 0)) (.cons (.val (.int .i64 0)) (.cons (.val (.int .i64 0)) (.cons (.val (.int .i64 0)) (.cons (.val (.int .i64 0)) (.cons (.val (.int .i64 0)) (.cons (.val (.int .i64 0)) (.cons (.val (.int .i64 0)) (.cons (.val (.slice none 0 0)) .nil))))))))))))))))))) (.cons (.st (.cons (.val (.int .i64 0)) (.cons (.st (.cons (.val (.int .i64 0)) (.cons (.val (.int .i64 0)) (.cons (.val (.int .i64 0)) (.cons (.val (.int .i64 0)) (.cons (.val (.int .i64 0)) (.cons (.val (.int .i64 0)) .nil))))))) (.cons (.val (.slice none 0 0)) (.cons (.st (.cons (.arr 12 1 fun _ => (.val (.int .i64 0))) .nil)) (.cons (.st (.cons (.val (.int .i64 0)) (.cons (.val (.bool false)) (.cons (.val (.int .i64 0)) (.cons (.val (.int .i64 0)) (.cons (.val (.int .i64 0)) (.cons (.val (.int .i64 0)) (.cons (.val (.int .i64 0)) (.cons (.val (.int .i64 0)) (.cons (.val (.int .i64 0)) (.cons (.val (.int .i64 0)) (.cons (.val (.int .i64 0)) (.cons (.val (.int .i64 0)) (.cons (.val (.int .i64 0)) (.cons (.val (.int .i64 0)) (.cons (.val (.int .i64 0)) .nil)))))))))))))))) (.cons (.val (.int .i64 0)) (.cons (.val (.int .i64 0)) (.cons (.val (.int .i64 0)) (.cons (.st (.cons (.val (.int .i64 0)) (.cons (.val (.int .i64 0)) (.cons (.val (.int .i64 0)) (.cons (.val (.int .i64 0)) (.cons (.val (.int .i64 0)) .nil)))))) (.cons (.val (.bool false)) (.cons (.val (.int .i64 0)) (.cons (.val (.int .i64 0)) .nil))))))))))))) (.cons (.st (.cons (.val (.int .i64 0)) (.cons (.val (.int .i64 0)) (.cons (.val (.int .i64 0)) (.cons (.val (.int .i64 0)) (.cons (.val (.int .i64 0)) .nil)))))) (.cons (.val (.slice none 0 0)) (.cons (.val (.int .i64 0)) .nil))))))), .n (.sto 71 (.t 9) (.t 18))])
  (.seq (.ops [.o 19 (.ld true 71 (.t 9)), .o 20 (.ld true 46 (.t 5)), .o 21 (.call 47 [(.t 19), (.t 20)]), .n (.sto 53 (.t 8) (.t 21))])
  .ret)))
theorem hc_r14_Promise : compF Tryz.prog 22 Tryz.f53 = some (ic_r14_Promise, [.c 8 true 53]) := by kernel_rfl

theorem fn_r14_Restructure : Tryz.prog.funcs[r14_Restructure]? = some Tryz.f54 := Tryz.func54
theorem nt_r14_Restructure : Tryz.f54.ntmps = 104 := Tryz.ntmps54
def ic_r14_Restructure : IC := (.seq (.ops [.o 4 (.box (.t 0)), .o 5 (.box (.t 1)), .o 8 (.alloc (.st (.cons (.st (.cons (.val (.int .i64 0)) (.cons (.st (.cons (.val (.int .i64 0)) (.cons (.val (.int .i64 0)) (.cons (.val (.int .i64 0)) (.cons (.val (.int .i64 0)) (.cons (.val (.int .i64 0)) (.cons (.val (.int .i64 0)) .nil))))))) (.cons (.val (.slice none 0 0)) (.cons (.st (.cons (.arr 12 1 fun _ => (.val (.int .i64 0))) .nil)) (.cons (.st (.cons (.val (.int .i64 0)) (.cons (.val (.bool false)) (.cons (.val (.int .i64 0)) (.cons (.val (.int .i64 0)) (.cons (.val (.int .i64 0)) (.cons (.val (.int .i64 0)) (.cons (.val (.int .i64 0)) (.cons (.val (.int .i64 0)) (.cons (.val (.int .i64 0)) (.cons (.val (.int .i64 0)) (.cons (.val (.int .i64 0)) (.cons (.val (.int .i64 0)) (.cons (.val (.int .i64 0)) (.cons (.val (.int .i64 0)) (.cons (.val (.int .i64 0)) .nil)))))))))))))))) (.cons (.val (.int .i64 0)) (.cons (.val (.int .i64 0)) (.cons (.val (.int .i64 0)) (.cons (.st (.cons (.val (.int .i64 0)) (.cons (.val (.int .i64 0)) (.cons (.val (.int .i64 0)) (.cons (.val (.int .i64 0)) (.cons (.val (.int .i64 0)) .nil)))))) (.cons (.val (.bool false)) (.cons (.val (.int .i64 0)) (.cons (.val (.int .i64 0)) .nil))))))))))))) (.cons (.st (.cons (.val (.int .i64 0)) (.cons (.val (.int .i64 0)) (.cons (.val (.int .i64 0)) (.cons (.val (.int .i64 0)) (.cons (.val (.int .i64 0)) .nil)))))) (.cons (.val (.slice none 0 0)) (.cons (.val (.int .i64 0)) .nil))))))])
  (.seq (.ops [.o 15 (.ld true 18 (.t 4)), .o 16 (.ld true 46 (.t 5)), .o 17 (.call 40 [(.t 15), (.t 16)]), .o 9 (.alloc (.st (.cons (.st (.cons (.val (.int .i64 0)) (.cons (.val (.int .i64 0)) (.cons (.val (.int .i64 0)) (.cons (.val (.int .i64 0)) (.cons (.val (.int .i64 0)) (.cons (.val (.int .i64 0)) (.cons (.val (.int .i64 0)) (.cons (.val (.int .i64 0)) (.cons (.val (.int .i64 0)) (.cons (.val (.int .i64 0)) (.cons (.val (.int .i64 0)) (.cons (.val (.int .i64 0)) (.cons (.val (.int .i64 0)) (.cons (.val (.int .i64 0)) (.cons (.val (.int .i64 0)) (.cons (.val (.int .i64 0)) (.cons (.val (.int .i64 0)) (.cons (.val (.slice none 0 0)) .nil))))))))))))))))))) (.cons (.st (.cons (.val (.int .i64 0)) (.cons (.st (.cons (.val (.int .i64 0)) (.cons (.val (.int .i64 0)) (.cons (.val (.int .i64 0)) (.cons (.val (.int .i64 0)) (.cons (.val (.int .i64 0)) (.cons (.val (.int .i64 0)) .nil))))))) (.cons (.val (.slice none 0 0)) (.cons (.st (.cons (.arr 12 1 fun _ => (.val (.int .i64 0))) .nil)) (.cons (.st (.cons (.val (.int .i64 0)) (.cons (.val (.bool false)) (.cons (.val (.int .i64 0)) (.cons (.val (.int .i64 0)) (.cons (.val (.int .i64 0)) (.cons (.val (.int .i64 0)) (.cons (.val (.int .i64 0)) (.cons (.val (.int .i64 0)) (.cons (.val (.int .i64 0)) (.cons (.val (.int .i64 0)) (.cons (.val (.int .i64 0)) (.cons (.val (.int .i64 0)) (.cons (.val (.int .i64 0)) (.cons (.val (.int .i64 0)) (.cons (.val (.int .i64 0)) .nil)))))))))))))))) (.cons (.val (.int .i64 0)) (.cons (.val (.int .i64 0)) (.cons (.val (.int .i64 0)) (.cons (.st (.cons (.val (.int .i64 0)) (.cons (.val (.int .i64 0)) (.cons (.val (.int .i64 0)) (.cons (.val (.int .i64 0)) (.cons (.val (.int .i64 0)) .nil)))))) (.cons (.val (.bool false)) (.cons (.val (.int .i64 0)) (.cons (.val (.int .i64 0)) .nil))))))))))))) (.cons (.st (.cons (.val (.int .i64 0)) (.cons (.val (.int .i64 0)) (.cons (.val (.int .i64 0)) (.cons (.val (.int .i64 0)) (.cons (.val (.int .i64 0)) .nil)))))) (.cons (.val (.slice none 0 0)) (.cons (.val (.int .i64 0)) .nil))))))), .n (.sto 71 (.t 9) (.t 17))])
  (.seq (.ops [.o 18 (.ld true 71 (.t 9)), .o 19 (.mv (.t 2)), .o 20 (.bin .lss (.t 19) (.c (.int .i64 1))), .o 21 (.mv (.t 20)), .og 22 21 false (.mv (.t 2)), .og 23 21 false (.bin .gtr (.t 22) (.c (.int .i64 120))), .o 24 (.pick (.t 21) (.c (.bool true)) (.t 23)), .o 25 (.mv (.t 24)), .og 26 25 false (.mv (.t 3)), .og 27 25 false (.bin .lss (.t 26) (.c (.int .i64 0))), .o 28 (.pick (.t 25) (.c (.bool true)) (.t 27)), .o 29 (.mv (.t 28)), .og 30 29 false (.mv (.t 3)), .og 31 29 false (.bin .gtr (.t 30) (.c (.int .i64 100000))), .o 32 (.pick (.t 29) (.c (.bool true)) (.t 31)), .o 33 (.call 41 [(.t 18), (.t 32), (.c (.int .i64 140))]), .n (.sto 71 (.t 9) (.t 33))])
  (.seq (.ops [.o 34 (.ld true 71 (.t 9)), .o 35 (.build (.st (.cons (.val (.int .i64 0)) (.cons (.val (.int .i64 0)) (.cons (.val (.int .i64 0)) (.cons (.val (.int .i64 0)) .nil))))) [(0, 0, 1, (.c (.int .i64 5)))]), .o 36 (.call 65 [(.t 34), (.t 35)]), .n (.sto 71 (.t 9) (.t 36))])
  (.seq (.ops [.o 37 (.ld true 46 (.t 5)), .o 38 (.call 75 [(.t 37)]), .o 10 (.alloc (.st (.cons (.val (.int .i64 0)) (.cons (.val (.int .i64 0)) (.cons (.val (.int .i64 0)) .nil))))), .n (.sto 3 (.t 10) (.t 38))])
  (.seq (.dops [.o 39 (.ld true 71 (.t 9)), .o 40 (.ld true 3 (.t 10)), .o 41 (.call 76 [(.t 40)]), .o 42 (.bin .gtr (.t 41) (.c (.int .i64 10000000000000))), .o 43 (.call 41 [(.t 39), (.t 42), (.c (.int .i64 3))]), .n (.sto 71 (.t 9) (.t 43))])
  (.seq (.seq (.ops [.o 44 (.fa 4 70 (.t 9)), .o 45 (.ld false 1 (.t 44)), .o 46 (.bin .neq (.t 45) (.c (.int .i64 0)))])
  (.cond (.t 46)
  (.seq (.ops [.o 47 (.ld true 71 (.t 9)), .o 48 (.ld true 46 (.t 5)), .o 49 (.call 47 [(.t 47), (.t 48)]), .n (.sto 53 (.t 8) (.t 49))])
  .ret)
  .skip))
  (.seq (.dops [.o 50 (.fa 1 1 (.t 5)), .o 51 (.fa 0 0 (.t 50)), .o 52 (.ld false 1 (.t 51)), .o 53 (.ld true 3 (.t 10)), .o 54 (.call 76 [(.t 53)]), .o 55 (.mv (.t 3)), .o 56 (.mv (.t 2)), .o 57 (.fa 5 35 (.t 5)), .o 58 (.ld false 1 (.t 57)), .o 59 (.fa 1 1 (.t 5)), .o 60 (.fa 5 5 (.t 59)), .o 61 (.ld false 1 (.t 60)), .o 62 (.build (.st (.cons (.val (.int .i64 0)) (.cons (.val (.int .i64 0)) (.cons (.val (.int .i64 0)) (.cons (.val (.int .i64 0)) (.cons (.val (.int .i64 0)) (.cons (.val (.int .i64 0)) .nil))))))) [(0, 0, 1, (.t 52)), (1, 1, 1, (.t 54)), (2, 2, 1, (.t 55)), (3, 3, 1, (.t 56)), (4, 4, 1, (.t 58)), (5, 5, 1, (.t 61))]), .o 11 (.alloc (.st (.cons (.val (.int .i64 0)) (.cons (.val (.int .i64 0)) (.cons (.val (.int .i64 0)) (.cons (.val (.int .i64 0)) (.cons (.val (.int .i64 0)) (.cons (.val (.int .i64 0)) .nil)))))))), .n (.sto 6 (.t 11) (.t 62))])
  (.seq (.ops [.o 64 (.ld true 6 (.t 11)), .o 65 (.fa 17 17 (.t 4)), .o 66 (.ld false 1 (.t 65)), .o 67 (.call 43 [(.t 64), (.t 66)]), .o 63 (.mv (.t 67)), .o 68 (.ext 0 (.t 63)), .o 69 (.ext 1 (.t 63)), .o 12 (.mv (.t 68)), .o 13 (.mv (.t 69))])
  (.seq (.ops [.o 70 (.ld true 71 (.t 9)), .o 71 (.mv (.t 13)), .o 72 (.un .not (.t 71)), .o 73 (.call 41 [(.t 70), (.t 72), (.c (.int .i64 141))]), .n (.sto 71 (.t 9) (.t 73))])
  (.seq (.ops [.o 14 (.mv (.c (.slice none 0 0)))])
  (.seq (.ops [.o 74 (.mv (.t 14)), .o 75 (.fa 1 1 (.t 10)), .o 76 (.ld false 1 (.t 75)), .o 77 (.call 46 [(.t 74), (.c (.int .i64 1)), (.c (.int .i64 2)), (.t 76)]), .o 14 (.mv (.t 77))])
  (.seq (.ops [.o 78 (.mv (.t 14)), .o 79 (.fa 0 0 (.t 10)), .o 80 (.ld false 1 (.t 79)), .o 81 (.call 46 [(.t 78), (.c (.int .i64 1)), (.c (.int .i64 3)), (.t 80)]), .o 14 (.mv (.t 81))])
  (.seq (.ops [.o 82 (.mv (.t 14)), .o 83 (.ld true 46 (.t 5)), .o 84 (.call 74 [(.t 83), (.c (.int .i64 5))]), .o 85 (.call 46 [(.t 82), (.c (.int .i64 5)), (.c (.int .i64 7)), (.t 84)]), .o 14 (.mv (.t 85))])
  (.seq (.ops [.o 86 (.ld true 71 (.t 9)), .o 87 (.mv (.t 14)), .o 88 (.call 45 [(.t 86), (.t 87)]), .n (.sto 71 (.t 9) (.t 88))])
  (.seq (.ops [.o 89 (.ld true 6 (.t 11)), .o 90 (.fa 1 18 (.t 9)), .o 91 (.fa 1 1 (.t 90)), .n (.sto 6 (.t 91) (.t 89))])
  (.seq (.ops [.o 92 (.mv (.t 12)), .o 93 (.fa 1 18 (.t 9)), .o 94 (.fa 2 7 (.t 93)), .n (.sto 1 (.t 94) (.t 92))])
  (.seq (.ops [.o 95 (.fa 1 18 (.t 9)), .o 96 (.fa 7 37 (.t 95)), .n (.sto 1 (.t 96) (.c (.int .i64 0)))])
  (.seq (.dops [.o 97 (.ld true 71 (.t 9)), .o 98 (.call 72 [(.t 97)]), .o 99 (.fa 1 1 (.t 11)), .o 100 (.ld false 1 (.t 99)), .o 101 (.call 73 [(.t 98), (.c (.int .i64 7)), (.t 100)]), .o 102 (.ld true 46 (.t 5)), .o 103 (.call 47 [(.t 101), (.t 102)]), .n (.sto 53 (.t 8) (.t 103))])
  .ret)))))))))))))))))))
theorem hc_r14_Restructure : compF Tryz.prog 104 Tryz.f54 = some (ic_r14_Restructure, [.c 8 true 53]) := by kernel_rfl

theorem fn_r8_Balance : Tryz.prog.funcs[r8_Balance]? = some Tryz.f55 := Tryz.func55
theorem nt_r8_Balance : Tryz.f55.ntmps = 21 := Tryz.ntmps55
def ic_r8_Balance : IC := (.seq (.ops [.o 2 (.box (.t 0)), .o 4 (.mv (.c (.int .i64 0))), .o 5 (.mv (.c (.int .i64 0)))])
  (.seq (.seq (.ops [.o 7 (.mv (.t 1)), .o 8 (.call 77 [(.t 7)]), .o 9 (.un .not (.t 8))])
  (.cond (.t 9)
  (.seq (.ops [.o 4 (.mv (.c (.int .i64 0))), .o 5 (.mv (.c (.int .i64 80)))])
  .ret)
  .skip))
  (.seq (.ops [.o 10 (.mv (.t 1)), .o 11 (.fa 0 0 (.t 2)), .o 12 (.ixa 12 1 (.t 11) (.t 10)), .o 13 (.ld false 1 (.t 12)), .o 6 (.mv (.t 13))])
  (.seq (.seq (.ops [.o 14 (.mv (.t 1)), .o 15 (.call 78 [(.t 14)])])
  (.cond (.t 15)
  (.seq (.ops [.o 16 (.mv (.t 6)), .o 4 (.mv (.t 16)), .o 5 (.mv (.c (.int .i64 0)))])
  .ret)
  .skip))
  (.seq (.seq (.ops [.o 17 (.mv (.t 6)), .o 18 (.bin .eql (.t 17) (.c (.int .i64 (-9223372036854775808))))])
  (.cond (.t 18)
  (.seq (.ops [.o 4 (.mv (.c (.int .i64 0))), .o 5 (.mv (.c (.int .i64 3)))])
  .ret)
  .skip))
  (.seq (.ops [.o 19 (.mv (.t 6)), .o 20 (.un .neg (.t 19)), .o 4 (.mv (.t 20)), .o 5 (.mv (.c (.int .i64 0)))])
  .ret))))))
theorem hc_r8_Balance : compF Tryz.prog 21 Tryz.f55 = some (ic_r8_Balance, [.t 4, .t 5]) := by kernel_rfl

theorem fn_r14_copied : Tryz.prog.funcs[r14_copied]? = some Tryz.f56 := Tryz.func56
theorem nt_r14_copied : Tryz.f56.ntmps = 23 := Tryz.ntmps56
def ic_r14_copied : IC := (.seq (.ops [.o 1 (.box (.t 0)), .o 2 (.alloc (.st (.cons (.val (.int .i64 0)) (.cons (.st (.cons (.val (.int .i64 0)) (.cons (.val (.int .i64 0)) (.cons (.val (.int .i64 0)) (.cons (.val (.int .i64 0)) (.cons (.val (.int .i64 0)) (.cons (.val (.int .i64 0)) .nil))))))) (.cons (.val (.slice none 0 0)) (.cons (.st (.cons (.arr 12 1 fun _ => (.val (.int .i64 0))) .nil)) (.cons (.st (.cons (.val (.int .i64 0)) (.cons (.val (.bool false)) (.cons (.val (.int .i64 0)) (.cons (.val (.int .i64 0)) (.cons (.val (.int .i64 0)) (.cons (.val (.int .i64 0)) (.cons (.val (.int .i64 0)) (.cons (.val (.int .i64 0)) (.cons (.val (.int .i64 0)) (.cons (.val (.int .i64 0)) (.cons (.val (.int .i64 0)) (.cons (.val (.int .i64 0)) (.cons (.val (.int .i64 0)) (.cons (.val (.int .i64 0)) (.cons (.val (.int .i64 0)) .nil)))))))))))))))) (.cons (.val (.int .i64 0)) (.cons (.val (.int .i64 0)) (.cons (.val (.int .i64 0)) (.cons (.st (.cons (.val (.int .i64 0)) (.cons (.val (.int .i64 0)) (.cons (.val (.int .i64 0)) (.cons (.val (.int .i64 0)) (.cons (.val (.int .i64 0)) .nil)))))) (.cons (.val (.bool false)) (.cons (.val (.int .i64 0)) (.cons (.val (.int .i64 0)) .nil))))))))))))))])
  (.seq (.ops [.o 3 (.mv (.c (.slice none 0 0)))])
  (.seq (.seq (.ops [.o 4 (.mv (.c (.int .i64 0)))])
  (.block 0 (.loop (.seq (.seq (.ops [.o 5 (.mv (.t 4)), .o 6 (.fa 2 7 (.t 1)), .o 7 (.ld false 1 (.t 6)), .o 8 (.len (.t 7)), .o 9 (.bin .lss (.t 5) (.t 8))])
  (.cond (.t 9)
  .skip
  (.exit 0)))
  (.seq (.block 1 (.ops [.o 12 (.mv (.t 3)), .o 13 (.fa 2 7 (.t 1)), .o 14 (.ld false 1 (.t 13)), .o 15 (.mv (.t 4)), .o 16 (.ixs 4 (.t 14) (.t 15)), .o 17 (.ld true 4 (.t 16)), .o 18 (.bsl 4 64 (.st (.cons (.val (.int .i64 0)) (.cons (.val (.int .i64 0)) (.cons (.val (.int .i64 0)) (.cons (.val (.bool false)) .nil))))) [(0, 0, 4, (.t 17))]), .o 19 (.app 4 32 64 (.t 12) (.t 18)), .o 3 (.mv (.t 19))]))
  (.ops [.o 10 (.mv (.t 4)), .o 11 (.bin .add (.t 10) (.c (.int .i64 1))), .o 4 (.mv (.t 11))]))))))
  (.seq (.ops [.o 20 (.mv (.t 3)), .o 21 (.fa 2 7 (.t 1)), .n (.sto 1 (.t 21) (.t 20))])
  (.seq (.ops [.o 22 (.ld true 46 (.t 1)), .n (.sto 46 (.t 2) (.t 22))])
  .ret)))))
theorem hc_r14_copied : compF Tryz.prog 23 Tryz.f56 = some (ic_r14_copied, [.c 2 true 46]) := by kernel_rfl

theorem fn_r3_Valid : Tryz.prog.funcs[r3_Valid]? = some Tryz.f57 := Tryz.func57
theorem nt_r3_Valid : Tryz.f57.ntmps = 53 := Tryz.ntmps57
def ic_r3_Valid : IC := (.seq (.ops [.o 1 (.box (.t 0)), .o 2 (.mv (.c (.bool false)))])
  (.seq (.seq (.ops [.o 3 (.fa 0 0 (.t 1)), .o 4 (.ld false 1 (.t 3)), .o 5 (.bin .lss (.t 4) (.c (.int .i64 0))), .o 6 (.mv (.t 5)), .og 7 6 false (.fa 0 0 (.t 1)), .og 8 6 false (.ld false 1 (.t 7)), .og 9 6 false (.bin .gtr (.t 8) (.c (.int .i64 2))), .o 10 (.pick (.t 6) (.c (.bool true)) (.t 9)), .o 11 (.mv (.t 10)), .og 12 11 false (.fa 1 1 (.t 1)), .og 13 11 false (.ld false 1 (.t 12)), .og 14 11 false (.bin .lss (.t 13) (.c (.int .i64 1))), .o 15 (.pick (.t 11) (.c (.bool true)) (.t 14)), .o 16 (.mv (.t 15)), .og 17 16 false (.fa 1 1 (.t 1)), .og 18 16 false (.ld false 1 (.t 17)), .og 19 16 false (.bin .gtr (.t 18) (.c (.int .i64 10000000000000))), .o 20 (.pick (.t 16) (.c (.bool true)) (.t 19)), .o 21 (.mv (.t 20)), .og 22 21 false (.fa 2 2 (.t 1)), .og 23 21 false (.ld false 1 (.t 22)), .og 24 21 false (.call 79 [(.t 23)]), .og 25 21 false (.un .not (.t 24)), .o 26 (.pick (.t 21) (.c (.bool true)) (.t 25))])
  (.cond (.t 26)
  (.seq (.ops [.o 2 (.mv (.c (.bool false)))])
  .ret)
  .skip))
  (.seq (.seq (.ops [.o 27 (.fa 3 3 (.t 1)), .o 28 (.ld false 1 (.t 27)), .o 29 (.bin .lss (.t 28) (.c (.int .i64 1))), .o 30 (.mv (.t 29)), .og 31 30 false (.fa 3 3 (.t 1)), .og 32 30 false (.ld false 1 (.t 31)), .og 33 30 false (.bin .gtr (.t 32) (.c (.int .i64 120))), .o 34 (.pick (.t 30) (.c (.bool true)) (.t 33)), .o 35 (.mv (.t 34)), .og 36 35 false (.fa 4 4 (.t 1)), .og 37 35 false (.ld false 1 (.t 36)), .og 38 35 false (.bin .lss (.t 37) (.c (.int .i64 1))), .o 39 (.pick (.t 35) (.c (.bool true)) (.t 38)), .o 40 (.mv (.t 39)), .og 41 40 false (.fa 4 4 (.t 1)), .og 42 40 false (.ld false 1 (.t 41)), .og 43 40 false (.bin .gtr (.t 42) (.c (.int .i64 3652059))), .o 44 (.pick (.t 40) (.c (.bool true)) (.t 43))])
  (.cond (.t 44)
  (.seq (.ops [.o 2 (.mv (.c (.bool false)))])
  .ret)
  .skip))
  (.seq (.ops [.o 45 (.fa 5 5 (.t 1)), .o 46 (.ld false 1 (.t 45)), .o 47 (.bin .geq (.t 46) (.c (.int .i64 0))), .o 48 (.mv (.t 47)), .og 49 48 true (.fa 5 5 (.t 1)), .og 50 48 true (.ld false 1 (.t 49)), .og 51 48 true (.bin .leq (.t 50) (.c (.int .i64 3))), .o 52 (.pick (.t 48) (.t 51) (.c (.bool false))), .o 2 (.mv (.t 52))])
  .ret))))
theorem hc_r3_Valid : compF Tryz.prog 53 Tryz.f57 = some (ic_r3_Valid, [.t 2]) := by kernel_rfl

theorem fn_r3_Level : Tryz.prog.funcs[r3_Level]? = some Tryz.f58 := Tryz.func58
theorem nt_r3_Level : Tryz.f58.ntmps = 51 := Tryz.ntmps58
def ic_r3_Level : IC := (.seq (.ops [.o 6 (.mv (.c (.int .i64 0))), .o 7 (.mv (.c (.bool false)))])
  (.seq (.seq (.ops [.o 10 (.mv (.t 0)), .o 11 (.bin .lss (.t 10) (.c (.int .i64 1))), .o 12 (.mv (.t 11)), .og 13 12 false (.mv (.t 1)), .og 14 12 false (.call 79 [(.t 13)]), .og 15 12 false (.un .not (.t 14)), .o 16 (.pick (.t 12) (.c (.bool true)) (.t 15)), .o 17 (.mv (.t 16)), .og 18 17 false (.mv (.t 2)), .og 19 17 false (.bin .lss (.t 18) (.c (.int .i64 1))), .o 20 (.pick (.t 17) (.c (.bool true)) (.t 19)), .o 21 (.mv (.t 20)), .og 22 21 false (.mv (.t 2)), .og 23 21 false (.bin .gtr (.t 22) (.c (.int .i64 120))), .o 24 (.pick (.t 21) (.c (.bool true)) (.t 23))])
  (.cond (.t 24)
  (.seq (.ops [.o 6 (.mv (.c (.int .i64 0))), .o 7 (.mv (.c (.bool false)))])
  .ret)
  .skip))
  (.seq (.ops [.o 8 (.mv (.c (.int .i64 9223372036854775807)))])
  (.seq (.seq (.ops [.o 25 (.mv (.t 8)), .o 26 (.mv (.t 0)), .o 27 (.mv (.t 1)), .o 28 (.mv (.t 2)), .o 29 (.call 80 [(.t 25), (.t 26), (.t 27), (.t 28)]), .o 30 (.un .not (.t 29))])
  (.cond (.t 30)
  (.seq (.ops [.o 6 (.mv (.c (.int .i64 0))), .o 7 (.mv (.c (.bool false)))])
  .ret)
  .skip))
  (.seq (.seq (.ops [.o 9 (.mv (.c (.int .i64 4611686018427387904)))])
  (.block 0 (.loop (.seq (.seq (.ops [.o 31 (.mv (.t 9)), .o 32 (.bin .gtr (.t 31) (.c (.int .i64 0)))])
  (.cond (.t 32)
  .skip
  (.exit 0)))
  (.seq (.block 1 (.seq (.ops [.o 35 (.mv (.t 8)), .o 36 (.mv (.t 9)), .o 37 (.bin .gtr (.t 35) (.t 36)), .o 38 (.mv (.t 37)), .og 39 38 true (.mv (.t 8)), .og 40 38 true (.mv (.t 9)), .og 41 38 true (.bin .sub (.t 39) (.t 40)), .og 42 38 true (.mv (.t 0)), .og 43 38 true (.mv (.t 1)), .og 44 38 true (.mv (.t 2)), .og 45 38 true (.call 80 [(.t 41), (.t 42), (.t 43), (.t 44)]), .o 46 (.pick (.t 38) (.t 45) (.c (.bool false)))])
  (.cond (.t 46)
  (.ops [.o 47 (.mv (.t 8)), .o 48 (.mv (.t 9)), .o 49 (.bin .sub (.t 47) (.t 48)), .o 8 (.mv (.t 49))])
  .skip)))
  (.ops [.o 33 (.mv (.t 9)), .o 34 (.bin .quo (.t 33) (.c (.int .i64 2))), .o 9 (.mv (.t 34))]))))))
  (.seq (.ops [.o 50 (.mv (.t 8)), .o 6 (.mv (.t 50)), .o 7 (.mv (.c (.bool true)))])
  .ret))))))
theorem hc_r3_Level : compF Tryz.prog 51 Tryz.f58 = some (ic_r3_Level, [.t 6, .t 7]) := by kernel_rfl

theorem fn_r3_month : Tryz.prog.funcs[r3_month]? = some Tryz.f59 := Tryz.func59
theorem nt_r3_month : Tryz.f59.ntmps = 37 := Tryz.ntmps59
def ic_r3_month : IC := (.seq (.ops [.o 4 (.mv (.c (.int .i64 0)))])
  (.seq (.ops [.o 8 (.mv (.t 0)), .o 9 (.bin .rem (.t 8) (.c (.int .i64 120000))), .o 10 (.mv (.t 1)), .o 11 (.bin .mul (.t 9) (.t 10)), .o 5 (.mv (.t 11))])
  (.seq (.ops [.o 12 (.mv (.t 0)), .o 13 (.bin .quo (.t 12) (.c (.int .i64 120000))), .o 14 (.mv (.t 1)), .o 15 (.bin .mul (.t 13) (.t 14)), .o 16 (.mv (.t 5)), .o 17 (.bin .quo (.t 16) (.c (.int .i64 120000))), .o 18 (.bin .add (.t 15) (.t 17)), .o 6 (.mv (.t 18))])
  (.seq (.ops [.o 19 (.mv (.t 5)), .o 20 (.bin .rem (.t 19) (.c (.int .i64 120000))), .o 7 (.mv (.t 20))])
  (.seq (.seq (.ops [.o 21 (.mv (.t 7)), .o 22 (.bin .mul (.c (.int .i64 2)) (.t 21)), .o 23 (.bin .gtr (.t 22) (.c (.int .i64 120000))), .o 24 (.mv (.t 23)), .og 25 24 false (.mv (.t 7)), .og 26 24 false (.bin .mul (.c (.int .i64 2)) (.t 25)), .og 27 24 false (.bin .eql (.t 26) (.c (.int .i64 120000))), .og 28 24 false (.mv (.t 27)), .og 29 28 true (.mv (.t 6)), .og 30 28 true (.bin .rem (.t 29) (.c (.int .i64 2))), .og 31 28 true (.bin .eql (.t 30) (.c (.int .i64 1))), .og 32 24 false (.pick (.t 28) (.t 31) (.c (.bool false))), .o 33 (.pick (.t 24) (.c (.bool true)) (.t 32))])
  (.cond (.t 33)
  (.ops [.o 34 (.mv (.t 6)), .o 35 (.bin .add (.t 34) (.c (.int .i64 1))), .o 6 (.mv (.t 35))])
  .skip))
  (.seq (.ops [.o 36 (.mv (.t 6)), .o 4 (.mv (.t 36))])
  .ret))))))
theorem hc_r3_month : compF Tryz.prog 37 Tryz.f59 = some (ic_r3_month, [.t 4]) := by kernel_rfl

theorem fn_r3_part : Tryz.prog.funcs[r3_part]? = some Tryz.f60 := Tryz.func60
theorem nt_r3_part : Tryz.f60.ntmps = 49 := Tryz.ntmps60
def ic_r3_part : IC := (.seq (.ops [.o 5 (.box (.t 0)), .o 10 (.mv (.c (.int .i64 0)))])
  (.seq (.seq (.ops [.o 12 (.fa 0 0 (.t 5)), .o 13 (.ld false 1 (.t 12)), .o 14 (.bin .eql (.t 13) (.c (.int .i64 0)))])
  (.cond (.t 14)
  (.seq (.seq (.ops [.o 15 (.mv (.t 1)), .o 16 (.mv (.t 4)), .o 17 (.bin .sub (.t 15) (.t 16)), .o 18 (.mv (.t 3)), .o 19 (.bin .lss (.t 17) (.t 18))])
  (.cond (.t 19)
  (.seq (.ops [.o 20 (.mv (.t 1)), .o 21 (.mv (.t 4)), .o 22 (.bin .sub (.t 20) (.t 21)), .o 10 (.mv (.t 22))])
  .ret)
  .skip))
  (.seq (.ops [.o 23 (.mv (.t 3)), .o 10 (.mv (.t 23))])
  .ret))
  .skip))
  (.seq (.seq (.ops [.o 24 (.fa 0 0 (.t 5)), .o 25 (.ld false 1 (.t 24)), .o 26 (.bin .eql (.t 25) (.c (.int .i64 1)))])
  (.cond (.t 26)
  (.seq (.ops [.o 27 (.fa 1 1 (.t 5)), .o 28 (.ld false 1 (.t 27)), .o 29 (.fa 3 3 (.t 5)), .o 30 (.ld false 1 (.t 29)), .o 31 (.bin .quo (.t 28) (.t 30)), .o 11 (.mv (.t 31))])
  (.seq (.seq (.ops [.o 32 (.mv (.t 2)), .o 33 (.fa 1 1 (.t 5)), .o 34 (.ld false 1 (.t 33)), .o 35 (.mv (.t 11)), .o 36 (.fa 3 3 (.t 5)), .o 37 (.ld false 1 (.t 36)), .o 38 (.bin .mul (.t 35) (.t 37)), .o 39 (.bin .sub (.t 34) (.t 38)), .o 40 (.bin .leq (.t 32) (.t 39))])
  (.cond (.t 40)
  (.seq (.ops [.o 41 (.mv (.t 11)), .o 42 (.bin .add (.t 41) (.c (.int .i64 1))), .o 10 (.mv (.t 42))])
  .ret)
  .skip))
  (.seq (.ops [.o 43 (.mv (.t 11)), .o 10 (.mv (.t 43))])
  .ret)))
  .skip))
  (.seq (.seq (.ops [.o 44 (.mv (.t 2)), .o 45 (.fa 3 3 (.t 5)), .o 46 (.ld false 1 (.t 45)), .o 47 (.bin .lss (.t 44) (.t 46))])
  (.cond (.t 47)
  (.seq (.ops [.o 10 (.mv (.c (.int .i64 0)))])
  .ret)
  .skip))
  (.seq (.ops [.o 48 (.mv (.t 3)), .o 10 (.mv (.t 48))])
  .ret)))))
theorem hc_r3_part : compF Tryz.prog 49 Tryz.f60 = some (ic_r3_part, [.t 10]) := by kernel_rfl

theorem fn_r3_Due : Tryz.prog.funcs[r3_Due]? = some Tryz.f61 := Tryz.func61
theorem nt_r3_Due : Tryz.f61.ntmps = 36 := Tryz.ntmps61
def ic_r3_Due : IC := (.seq (.ops [.o 3 (.box (.t 0)), .o 6 (.mv (.c (.int .i64 0))), .o 7 (.mv (.c (.bool false)))])
  (.seq (.ops [.o 13 (.fa 4 4 (.t 3)), .o 14 (.ld false 1 (.t 13)), .o 15 (.call 81 [(.t 14)]), .o 12 (.mv (.t 15)), .o 16 (.ext 0 (.t 12)), .o 17 (.ext 1 (.t 12)), .o 8 (.alloc (.st (.cons (.val (.int .i64 0)) (.cons (.val (.int .i64 0)) (.cons (.val (.int .i64 0)) .nil))))), .n (.sto 3 (.t 8) (.t 16)), .o 9 (.mv (.t 17))])
  (.seq (.ops [.o 19 (.fa 4 4 (.t 3)), .o 20 (.ld false 1 (.t 19)), .o 21 (.mv (.t 2)), .o 22 (.fa 2 2 (.t 8)), .o 23 (.ld false 1 (.t 22)), .o 24 (.call 82 [(.t 20), (.t 21), (.t 23)]), .o 18 (.mv (.t 24)), .o 25 (.ext 0 (.t 18)), .o 26 (.ext 1 (.t 18)), .o 10 (.mv (.t 25)), .o 11 (.mv (.t 26))])
  (.seq (.seq (.ops [.o 27 (.mv (.t 11)), .o 28 (.un .not (.t 27))])
  (.cond (.t 28)
  (.seq (.ops [.o 6 (.mv (.c (.int .i64 0))), .o 7 (.mv (.c (.bool false)))])
  .ret)
  .skip))
  (.seq (.ops [.o 29 (.mv (.t 10)), .o 30 (.mv (.t 1)), .o 31 (.fa 5 5 (.t 3)), .o 32 (.ld false 1 (.t 31)), .o 33 (.call 83 [(.t 29), (.t 30), (.t 32)]), .o 34 (.ext 0 (.t 33)), .o 35 (.ext 1 (.t 33)), .o 6 (.mv (.t 34)), .o 7 (.mv (.t 35))])
  .ret)))))
theorem hc_r3_Due : compF Tryz.prog 36 Tryz.f61 = some (ic_r3_Due, [.t 6, .t 7]) := by kernel_rfl

theorem fn_r8_Post : Tryz.prog.funcs[r8_Post]? = some Tryz.f62 := Tryz.func62
theorem nt_r8_Post : Tryz.f62.ntmps = 64 := Tryz.ntmps62
def ic_r8_Post : IC := (.seq (.ops [.o 2 (.box (.t 0)), .o 4 (.alloc (.st (.cons (.arr 12 1 fun _ => (.val (.int .i64 0))) .nil))), .o 5 (.mv (.c (.int .i64 0)))])
  (.seq (.seq (.ops [.o 6 (.mv (.c (.int .i64 0)))])
  (.block 0 (.loop (.seq (.seq (.ops [.o 13 (.mv (.t 6)), .o 14 (.mv (.t 1)), .o 15 (.len (.t 14)), .o 16 (.bin .lss (.t 13) (.t 15))])
  (.cond (.t 16)
  .skip
  (.exit 0)))
  (.seq (.block 1 (.seq (.ops [.o 19 (.mv (.t 1)), .o 20 (.mv (.t 6)), .o 21 (.ixs 3 (.t 19) (.t 20)), .o 22 (.ld true 3 (.t 21)), .o 23 (.call 84 [(.t 22)]), .o 7 (.mv (.t 23))])
  (.seq (.ops [.o 24 (.mv (.t 7)), .o 25 (.bin .neq (.t 24) (.c (.int .i64 0)))])
  (.cond (.t 25)
  (.seq (.ops [.o 26 (.ld true 12 (.t 2)), .o 27 (.mv (.t 7)), .n (.sto 12 (.t 4) (.t 26)), .o 5 (.mv (.t 27))])
  .ret)
  .skip))))
  (.ops [.o 17 (.mv (.t 6)), .o 18 (.bin .add (.t 17) (.c (.int .i64 1))), .o 6 (.mv (.t 18))]))))))
  (.seq (.ops [.o 8 (.alloc (.st (.cons (.arr 12 1 fun _ => (.val (.int .i64 0))) .nil)))])
  (.seq (.seq (.ops [.o 9 (.mv (.c (.int .i64 0)))])
  (.block 2 (.loop (.seq (.seq (.ops [.o 28 (.mv (.t 9)), .o 29 (.bin .lss (.t 28) (.c (.int .i64 12)))])
  (.cond (.t 29)
  .skip
  (.exit 2)))
  (.seq (.block 3 (.seq (.ops [.o 33 (.ld true 12 (.t 2)), .o 34 (.mv (.t 1)), .o 35 (.mv (.t 9)), .o 36 (.call 85 [(.t 33), (.t 34), (.t 35)]), .o 37 (.call 24 [(.t 36)]), .o 32 (.mv (.t 37)), .o 38 (.ext 0 (.t 32)), .o 39 (.ext 1 (.t 32)), .o 10 (.mv (.t 38)), .o 11 (.mv (.t 39))])
  (.seq (.seq (.ops [.o 40 (.mv (.t 11)), .o 41 (.un .not (.t 40)), .o 42 (.mv (.t 41)), .og 43 42 false (.mv (.t 10)), .og 44 42 false (.bin .eql (.t 43) (.c (.int .i64 (-9223372036854775808)))), .o 45 (.pick (.t 42) (.c (.bool true)) (.t 44))])
  (.cond (.t 45)
  (.seq (.ops [.o 46 (.ld true 12 (.t 2)), .n (.sto 12 (.t 4) (.t 46)), .o 5 (.mv (.c (.int .i64 3)))])
  .ret)
  .skip))
  (.ops [.o 47 (.mv (.t 9)), .o 48 (.mv (.t 10)), .o 49 (.fa 0 0 (.t 8)), .o 50 (.ixa 12 1 (.t 49) (.t 47)), .n (.sto 1 (.t 50) (.t 48))]))))
  (.ops [.o 30 (.mv (.t 9)), .o 31 (.bin .add (.t 30) (.c (.int .i64 1))), .o 9 (.mv (.t 31))]))))))
  (.seq (.seq (.ops [.o 12 (.mv (.c (.int .i64 0)))])
  (.block 4 (.loop (.seq (.seq (.ops [.o 51 (.mv (.t 12)), .o 52 (.bin .lss (.t 51) (.c (.int .i64 12)))])
  (.cond (.t 52)
  .skip
  (.exit 4)))
  (.seq (.block 5 (.seq (.ops [.o 55 (.mv (.t 12)), .o 56 (.mv (.t 12)), .o 57 (.fa 0 0 (.t 8)), .o 58 (.ixa 12 1 (.t 57) (.t 56)), .o 59 (.ld false 1 (.t 58)), .o 60 (.call 86 [(.t 55), (.t 59)]), .o 61 (.un .not (.t 60))])
  (.cond (.t 61)
  (.seq (.ops [.o 62 (.ld true 12 (.t 2)), .n (.sto 12 (.t 4) (.t 62)), .o 5 (.mv (.c (.int .i64 81)))])
  .ret)
  .skip)))
  (.ops [.o 53 (.mv (.t 12)), .o 54 (.bin .add (.t 53) (.c (.int .i64 1))), .o 12 (.mv (.t 54))]))))))
  (.seq (.ops [.o 63 (.ld true 12 (.t 8)), .n (.sto 12 (.t 4) (.t 63)), .o 5 (.mv (.c (.int .i64 0)))])
  .ret))))))
theorem hc_r8_Post : compF Tryz.prog 64 Tryz.f62 = some (ic_r8_Post, [.c 4 true 12, .t 5]) := by kernel_rfl

theorem fn_r14_accrued : Tryz.prog.funcs[r14_accrued]? = some Tryz.f63 := Tryz.func63
theorem nt_r14_accrued : Tryz.f63.ntmps = 56 := Tryz.ntmps63
def ic_r14_accrued : IC := (.seq (.ops [.o 2 (.box (.t 0)), .o 4 (.alloc (.st (.cons (.st (.cons (.val (.int .i64 0)) (.cons (.val (.int .i64 0)) (.cons (.val (.int .i64 0)) (.cons (.val (.int .i64 0)) (.cons (.val (.int .i64 0)) (.cons (.val (.int .i64 0)) (.cons (.val (.int .i64 0)) (.cons (.val (.int .i64 0)) (.cons (.val (.int .i64 0)) (.cons (.val (.int .i64 0)) (.cons (.val (.int .i64 0)) (.cons (.val (.int .i64 0)) (.cons (.val (.int .i64 0)) (.cons (.val (.int .i64 0)) (.cons (.val (.int .i64 0)) (.cons (.val (.int .i64 0)) (.cons (.val (.int .i64 0)) (.cons (.val (.slice none 0 0)) .nil))))))))))))))))))) (.cons (.st (.cons (.val (.int .i64 0)) (.cons (.st (.cons (.val (.int .i64 0)) (.cons (.val (.int .i64 0)) (.cons (.val (.int .i64 0)) (.cons (.val (.int .i64 0)) (.cons (.val (.int .i64 0)) (.cons (.val (.int .i64 0)) .nil))))))) (.cons (.val (.slice none 0 0)) (.cons (.st (.cons (.arr 12 1 fun _ => (.val (.int .i64 0))) .nil)) (.cons (.st (.cons (.val (.int .i64 0)) (.cons (.val (.bool false)) (.cons (.val (.int .i64 0)) (.cons (.val (.int .i64 0)) (.cons (.val (.int .i64 0)) (.cons (.val (.int .i64 0)) (.cons (.val (.int .i64 0)) (.cons (.val (.int .i64 0)) (.cons (.val (.int .i64 0)) (.cons (.val (.int .i64 0)) (.cons (.val (.int .i64 0)) (.cons (.val (.int .i64 0)) (.cons (.val (.int .i64 0)) (.cons (.val (.int .i64 0)) (.cons (.val (.int .i64 0)) .nil)))))))))))))))) (.cons (.val (.int .i64 0)) (.cons (.val (.int .i64 0)) (.cons (.val (.int .i64 0)) (.cons (.st (.cons (.val (.int .i64 0)) (.cons (.val (.int .i64 0)) (.cons (.val (.int .i64 0)) (.cons (.val (.int .i64 0)) (.cons (.val (.int .i64 0)) .nil)))))) (.cons (.val (.bool false)) (.cons (.val (.int .i64 0)) (.cons (.val (.int .i64 0)) .nil))))))))))))) (.cons (.st (.cons (.val (.int .i64 0)) (.cons (.val (.int .i64 0)) (.cons (.val (.int .i64 0)) (.cons (.val (.int .i64 0)) (.cons (.val (.int .i64 0)) .nil)))))) (.cons (.val (.slice none 0 0)) (.cons (.val (.int .i64 0)) .nil)))))))])
  (.seq (.seq (.ops [.o 9 (.fa 4 70 (.t 2)), .o 10 (.ld false 1 (.t 9)), .o 11 (.bin .neq (.t 10) (.c (.int .i64 0)))])
  (.cond (.t 11)
  (.seq (.ops [.o 12 (.ld true 71 (.t 2)), .n (.sto 71 (.t 4) (.t 12))])
  .ret)
  .skip))
  (.seq (.ops [.o 13 (.fa 1 18 (.t 2)), .o 14 (.fa 5 35 (.t 13)), .o 15 (.ld false 1 (.t 14)), .o 16 (.mv (.t 1)), .o 17 (.bin .add (.t 15) (.t 16)), .o 18 (.fa 1 18 (.t 2)), .o 19 (.fa 5 35 (.t 18)), .n (.sto 1 (.t 19) (.t 17))])
  (.seq (.seq (.ops [.o 20 (.fa 1 18 (.t 2)), .o 21 (.ld true 46 (.t 20)), .o 22 (.call 64 [(.t 21)])])
  (.cond (.t 22)
  (.seq (.ops [.o 23 (.ld true 71 (.t 2)), .n (.sto 71 (.t 4) (.t 23))])
  .ret)
  .skip))
  (.seq (.dops [.o 25 (.fa 1 18 (.t 2)), .o 26 (.ld true 46 (.t 25)), .o 27 (.call 74 [(.t 26), (.c (.int .i64 1))]), .o 28 (.fa 1 18 (.t 2)), .o 29 (.fa 1 1 (.t 28)), .o 30 (.fa 2 2 (.t 29)), .o 31 (.ld false 1 (.t 30)), .o 32 (.fa 1 18 (.t 2)), .o 33 (.fa 6 36 (.t 32)), .o 34 (.ld false 1 (.t 33)), .o 35 (.mv (.t 1)), .o 36 (.call 87 [(.t 27), (.t 31), (.t 34), (.t 35)]), .o 24 (.mv (.t 36)), .o 37 (.ext 0 (.t 24)), .o 38 (.ext 1 (.t 24)), .o 39 (.ext 2 (.t 24)), .o 5 (.mv (.t 37)), .o 6 (.mv (.t 38)), .o 7 (.mv (.t 39))])
  (.seq (.ops [.o 40 (.ld true 71 (.t 2)), .o 41 (.mv (.t 7)), .o 42 (.un .not (.t 41)), .o 43 (.call 41 [(.t 40), (.t 42), (.c (.int .i64 3))]), .n (.sto 71 (.t 2) (.t 43))])
  (.seq (.ops [.o 44 (.mv (.t 6)), .o 45 (.fa 1 18 (.t 2)), .o 46 (.fa 6 36 (.t 45)), .n (.sto 1 (.t 46) (.t 44))])
  (.seq (.ops [.o 8 (.mv (.c (.int .i64 7)))])
  (.seq (.seq (.ops [.o 47 (.fa 1 18 (.t 2)), .o 48 (.fa 4 20 (.t 47)), .o 49 (.fa 1 1 (.t 48)), .o 50 (.ld false 1 (.t 49))])
  (.cond (.t 50)
  (.ops [.o 8 (.mv (.c (.int .i64 5)))])
  .skip))
  (.seq (.dops [.o 51 (.ld true 71 (.t 2)), .o 52 (.mv (.t 8)), .o 53 (.mv (.t 5)), .o 54 (.call 46 [(.c (.slice none 0 0)), (.c (.int .i64 2)), (.t 52), (.t 53)]), .o 55 (.call 45 [(.t 51), (.t 54)]), .n (.sto 71 (.t 4) (.t 55))])
  .ret))))))))))
theorem hc_r14_accrued : compF Tryz.prog 56 Tryz.f63 = some (ic_r14_accrued, [.c 4 true 71]) := by kernel_rfl

theorem fn_r14_over : Tryz.prog.funcs[r14_over]? = some Tryz.f64 := Tryz.func64
theorem nt_r14_over : Tryz.f64.ntmps = 13 := Tryz.ntmps64
def ic_r14_over : IC := (.seq (.ops [.o 1 (.box (.t 0)), .o 2 (.mv (.c (.bool false)))])
  (.seq (.ops [.o 3 (.fa 4 20 (.t 1)), .o 4 (.fa 0 0 (.t 3)), .o 5 (.ld false 1 (.t 4)), .o 6 (.bin .eql (.t 5) (.c (.int .i64 9))), .o 7 (.mv (.t 6)), .og 8 7 false (.fa 4 20 (.t 1)), .og 9 7 false (.fa 0 0 (.t 8)), .og 10 7 false (.ld false 1 (.t 9)), .og 11 7 false (.bin .eql (.t 10) (.c (.int .i64 8))), .o 12 (.pick (.t 7) (.c (.bool true)) (.t 11)), .o 2 (.mv (.t 12))])
  .ret))
theorem hc_r14_over : compF Tryz.prog 13 Tryz.f64 = some (ic_r14_over, [.t 2]) := by kernel_rfl

theorem fn_r14_played : Tryz.prog.funcs[r14_played]? = some Tryz.f65 := Tryz.func65
theorem nt_r14_played : Tryz.f65.ntmps = 45 := Tryz.ntmps65
def ic_r14_played : IC := (.seq (.ops [.o 2 (.box (.t 0)), .o 3 (.box (.t 1)), .o 4 (.alloc (.st (.cons (.st (.cons (.val (.int .i64 0)) (.cons (.val (.int .i64 0)) (.cons (.val (.int .i64 0)) (.cons (.val (.int .i64 0)) (.cons (.val (.int .i64 0)) (.cons (.val (.int .i64 0)) (.cons (.val (.int .i64 0)) (.cons (.val (.int .i64 0)) (.cons (.val (.int .i64 0)) (.cons (.val (.int .i64 0)) (.cons (.val (.int .i64 0)) (.cons (.val (.int .i64 0)) (.cons (.val (.int .i64 0)) (.cons (.val (.int .i64 0)) (.cons (.val (.int .i64 0)) (.cons (.val (.int .i64 0)) (.cons (.val (.int .i64 0)) (.cons (.val (.slice none 0 0)) .nil))))))))))))))))))) (.cons (.st (.cons (.val (.int .i64 0)) (.cons (.st (.cons (.val (.int .i64 0)) (.cons (.val (.int .i64 0)) (.cons (.val (.int .i64 0)) (.cons (.val (.int .i64 0)) (.cons (.val (.int .i64 0)) (.cons (.val (.int .i64 0)) .nil))))))) (.cons (.val (.slice none 0 0)) (.cons (.st (.cons (.arr 12 1 fun _ => (.val (.int .i64 0))) .nil)) (.cons (.st (.cons (.val (.int .i64 0)) (.cons (.val (.bool false)) (.cons (.val (.int .i64 0)) (.cons (.val (.int .i64 0)) (.cons (.val (.int .i64 0)) (.cons (.val (.int .i64 0)) (.cons (.val (.int .i64 0)) (.cons (.val (.int .i64 0)) (.cons (.val (.int .i64 0)) (.cons (.val (.int .i64 0)) (.cons (.val (.int .i64 0)) (.cons (.val (.int .i64 0)) (.cons (.val (.int .i64 0)) (.cons (.val (.int .i64 0)) (.cons (.val (.int .i64 0)) .nil)))))))))))))))) (.cons (.val (.int .i64 0)) (.cons (.val (.int .i64 0)) (.cons (.val (.int .i64 0)) (.cons (.st (.cons (.val (.int .i64 0)) (.cons (.val (.int .i64 0)) (.cons (.val (.int .i64 0)) (.cons (.val (.int .i64 0)) (.cons (.val (.int .i64 0)) .nil)))))) (.cons (.val (.bool false)) (.cons (.val (.int .i64 0)) (.cons (.val (.int .i64 0)) .nil))))))))))))) (.cons (.st (.cons (.val (.int .i64 0)) (.cons (.val (.int .i64 0)) (.cons (.val (.int .i64 0)) (.cons (.val (.int .i64 0)) (.cons (.val (.int .i64 0)) .nil)))))) (.cons (.val (.slice none 0 0)) (.cons (.val (.int .i64 0)) .nil)))))))])
  (.seq (.seq (.ops [.o 9 (.fa 4 70 (.t 2)), .o 10 (.ld false 1 (.t 9)), .o 11 (.bin .neq (.t 10) (.c (.int .i64 0)))])
  (.cond (.t 11)
  (.seq (.ops [.o 12 (.ld true 71 (.t 2)), .n (.sto 71 (.t 4) (.t 12))])
  .ret)
  .skip))
  (.seq (.ops [.o 14 (.fa 0 0 (.t 2)), .o 15 (.ld true 18 (.t 14)), .o 16 (.fa 1 18 (.t 2)), .o 17 (.fa 4 20 (.t 16)), .o 18 (.ld true 15 (.t 17)), .o 19 (.ld true 4 (.t 3)), .o 20 (.call 88 [(.t 15), (.t 18), (.t 19)]), .o 13 (.mv (.t 20)), .o 21 (.ext 0 (.t 13)), .o 22 (.ext 1 (.t 13)), .o 23 (.ext 2 (.t 13)), .o 5 (.alloc (.st (.cons (.val (.int .i64 0)) (.cons (.val (.bool false)) (.cons (.val (.int .i64 0)) (.cons (.val (.int .i64 0)) (.cons (.val (.int .i64 0)) (.cons (.val (.int .i64 0)) (.cons (.val (.int .i64 0)) (.cons (.val (.int .i64 0)) (.cons (.val (.int .i64 0)) (.cons (.val (.int .i64 0)) (.cons (.val (.int .i64 0)) (.cons (.val (.int .i64 0)) (.cons (.val (.int .i64 0)) (.cons (.val (.int .i64 0)) (.cons (.val (.int .i64 0)) .nil))))))))))))))))), .n (.sto 15 (.t 5) (.t 21)), .o 6 (.mv (.t 22)), .o 7 (.mv (.t 23))])
  (.seq (.seq (.ops [.o 24 (.mv (.t 7)), .o 25 (.bin .neq (.t 24) (.c (.int .i64 0)))])
  (.cond (.t 25)
  (.seq (.ops [.o 26 (.mv (.t 7)), .o 27 (.fa 4 70 (.t 2)), .n (.sto 1 (.t 27) (.t 26))])
  (.seq (.ops [.o 28 (.ld true 71 (.t 2)), .n (.sto 71 (.t 4) (.t 28))])
  .ret))
  .skip))
  (.seq (.ops [.o 29 (.ld true 15 (.t 5)), .o 30 (.fa 1 18 (.t 2)), .o 31 (.fa 4 20 (.t 30)), .n (.sto 15 (.t 31) (.t 29))])
  (.seq (.seq (.ops [.o 8 (.mv (.c (.int .i64 0)))])
  (.block 0 (.loop (.seq (.seq (.ops [.o 32 (.mv (.t 8)), .o 33 (.mv (.t 6)), .o 34 (.len (.t 33)), .o 35 (.bin .lss (.t 32) (.t 34))])
  (.cond (.t 35)
  .skip
  (.exit 0)))
  (.seq (.block 1 (.dops [.o 38 (.ld true 71 (.t 2)), .o 39 (.mv (.t 6)), .o 40 (.mv (.t 8)), .o 41 (.ixs 1 (.t 39) (.t 40)), .o 42 (.ld false 1 (.t 41)), .o 43 (.call 89 [(.t 38), (.t 42)]), .n (.sto 71 (.t 2) (.t 43))]))
  (.ops [.o 36 (.mv (.t 8)), .o 37 (.bin .add (.t 36) (.c (.int .i64 1))), .o 8 (.mv (.t 37))]))))))
  (.seq (.ops [.o 44 (.ld true 71 (.t 2)), .n (.sto 71 (.t 4) (.t 44))])
  .ret)))))))
theorem hc_r14_played : compF Tryz.prog 45 Tryz.f65 = some (ic_r14_played, [.c 4 true 71]) := by kernel_rfl

theorem fn_r14_days : Tryz.prog.funcs[r14_days]? = some Tryz.f66 := Tryz.func66
theorem nt_r14_days : Tryz.f66.ntmps = 10 := Tryz.ntmps66
def ic_r14_days : IC := (.seq (.ops [.o 1 (.box (.t 0)), .o 2 (.mv (.c (.int .i64 0)))])
  (.seq (.dops [.o 3 (.fa 2 7 (.t 1)), .o 4 (.ld false 1 (.t 3)), .o 5 (.ld true 46 (.t 1)), .o 6 (.call 91 [(.t 5)]), .o 7 (.fa 5 35 (.t 1)), .o 8 (.ld false 1 (.t 7)), .o 9 (.call 90 [(.t 4), (.t 6), (.t 8)]), .o 2 (.mv (.t 9))])
  .ret))
theorem hc_r14_days : compF Tryz.prog 10 Tryz.f66 = some (ic_r14_days, [.t 2]) := by kernel_rfl

theorem fn_r14_charged : Tryz.prog.funcs[r14_charged]? = some Tryz.f67 := Tryz.func67
theorem nt_r14_charged : Tryz.f67.ntmps = 90 := Tryz.ntmps67
def ic_r14_charged : IC := (.seq (.ops [.o 1 (.box (.t 0)), .o 2 (.alloc (.st (.cons (.st (.cons (.val (.int .i64 0)) (.cons (.val (.int .i64 0)) (.cons (.val (.int .i64 0)) (.cons (.val (.int .i64 0)) (.cons (.val (.int .i64 0)) (.cons (.val (.int .i64 0)) (.cons (.val (.int .i64 0)) (.cons (.val (.int .i64 0)) (.cons (.val (.int .i64 0)) (.cons (.val (.int .i64 0)) (.cons (.val (.int .i64 0)) (.cons (.val (.int .i64 0)) (.cons (.val (.int .i64 0)) (.cons (.val (.int .i64 0)) (.cons (.val (.int .i64 0)) (.cons (.val (.int .i64 0)) (.cons (.val (.int .i64 0)) (.cons (.val (.slice none 0 0)) .nil))))))))))))))))))) (.cons (.st (.cons (.val (.int .i64 0)) (.cons (.st (.cons (.val (.int .i64 0)) (.cons (.val (.int .i64 0)) (.cons (.val (.int .i64 0)) (.cons (.val (.int .i64 0)) (.cons (.val (.int .i64 0)) (.cons (.val (.int .i64 0)) .nil))))))) (.cons (.val (.slice none 0 0)) (.cons (.st (.cons (.arr 12 1 fun _ => (.val (.int .i64 0))) .nil)) (.cons (.st (.cons (.val (.int .i64 0)) (.cons (.val (.bool false)) (.cons (.val (.int .i64 0)) (.cons (.val (.int .i64 0)) (.cons (.val (.int .i64 0)) (.cons (.val (.int .i64 0)) (.cons (.val (.int .i64 0)) (.cons (.val (.int .i64 0)) (.cons (.val (.int .i64 0)) (.cons (.val (.int .i64 0)) (.cons (.val (.int .i64 0)) (.cons (.val (.int .i64 0)) (.cons (.val (.int .i64 0)) (.cons (.val (.int .i64 0)) (.cons (.val (.int .i64 0)) .nil)))))))))))))))) (.cons (.val (.int .i64 0)) (.cons (.val (.int .i64 0)) (.cons (.val (.int .i64 0)) (.cons (.st (.cons (.val (.int .i64 0)) (.cons (.val (.int .i64 0)) (.cons (.val (.int .i64 0)) (.cons (.val (.int .i64 0)) (.cons (.val (.int .i64 0)) .nil)))))) (.cons (.val (.bool false)) (.cons (.val (.int .i64 0)) (.cons (.val (.int .i64 0)) .nil))))))))))))) (.cons (.st (.cons (.val (.int .i64 0)) (.cons (.val (.int .i64 0)) (.cons (.val (.int .i64 0)) (.cons (.val (.int .i64 0)) (.cons (.val (.int .i64 0)) .nil)))))) (.cons (.val (.slice none 0 0)) (.cons (.val (.int .i64 0)) .nil)))))))])
  (.seq (.seq (.ops [.o 7 (.fa 4 70 (.t 1)), .o 8 (.ld false 1 (.t 7)), .o 9 (.bin .neq (.t 8) (.c (.int .i64 0))), .o 10 (.mv (.t 9)), .og 11 10 false (.fa 1 18 (.t 1)), .og 12 10 false (.fa 4 20 (.t 11)), .og 13 10 false (.ld true 15 (.t 12)), .og 14 10 false (.call 92 [(.t 13)]), .og 15 10 false (.un .not (.t 14)), .o 16 (.pick (.t 10) (.c (.bool true)) (.t 15)), .o 17 (.mv (.t 16)), .og 18 17 false (.fa 1 18 (.t 1)), .og 19 17 false (.fa 4 20 (.t 18)), .og 20 17 false (.fa 0 0 (.t 19)), .og 21 17 false (.ld false 1 (.t 20)), .og 22 17 false (.bin .eql (.t 21) (.c (.int .i64 4))), .o 23 (.pick (.t 17) (.c (.bool true)) (.t 22))])
  (.cond (.t 23)
  (.seq (.ops [.o 24 (.ld true 71 (.t 1)), .n (.sto 71 (.t 2) (.t 24))])
  .ret)
  .skip))
  (.seq (.dops [.o 25 (.fa 1 18 (.t 1)), .o 26 (.fa 2 7 (.t 25)), .o 27 (.ld false 1 (.t 26)), .o 28 (.fa 1 18 (.t 1)), .o 29 (.ld true 46 (.t 28)), .o 30 (.call 91 [(.t 29)]), .o 31 (.fa 1 18 (.t 1)), .o 32 (.fa 5 35 (.t 31)), .o 33 (.ld false 1 (.t 32)), .o 34 (.fa 0 0 (.t 1)), .o 35 (.fa 1 1 (.t 34)), .o 36 (.ld false 1 (.t 35)), .o 37 (.call 93 [(.t 27), (.t 30), (.t 33), (.t 36)]), .o 3 (.mv (.t 37))])
  (.seq (.seq (.ops [.o 4 (.mv (.c (.int .i64 0)))])
  (.block 0 (.loop (.seq (.seq (.ops [.o 38 (.mv (.t 4)), .o 39 (.mv (.t 3)), .o 40 (.len (.t 39)), .o 41 (.bin .lss (.t 38) (.t 40))])
  (.cond (.t 41)
  .skip
  (.exit 0)))
  (.seq (.block 1 (.seq (.dops [.o 44 (.fa 1 18 (.t 1)), .o 45 (.fa 2 7 (.t 44)), .o 46 (.ld false 1 (.t 45)), .o 47 (.mv (.t 3)), .o 48 (.mv (.t 4)), .o 49 (.ixs 1 (.t 47) (.t 48)), .o 50 (.ld false 1 (.t 49)), .o 51 (.ixs 4 (.t 46) (.t 50)), .o 52 (.ld true 4 (.t 51)), .o 5 (.alloc (.st (.cons (.val (.int .i64 0)) (.cons (.val (.int .i64 0)) (.cons (.val (.int .i64 0)) (.cons (.val (.bool false)) .nil)))))), .n (.sto 4 (.t 5) (.t 52))])
  (.seq (.ops [.o 53 (.fa 0 0 (.t 1)), .o 54 (.ld true 18 (.t 53)), .o 55 (.fa 1 1 (.t 5)), .o 56 (.ld false 1 (.t 55)), .o 57 (.fa 2 2 (.t 5)), .o 58 (.ld false 1 (.t 57)), .o 59 (.bin .add (.t 56) (.t 58)), .o 60 (.fa 1 18 (.t 1)), .o 61 (.fa 4 20 (.t 60)), .o 62 (.fa 13 13 (.t 61)), .o 63 (.ld false 1 (.t 62)), .o 64 (.fa 1 18 (.t 1)), .o 65 (.fa 4 20 (.t 64)), .o 66 (.fa 14 14 (.t 65)), .o 67 (.ld false 1 (.t 66)), .o 68 (.call 94 [(.t 54), (.t 59), (.t 63), (.t 67)]), .o 6 (.mv (.t 68))])
  (.seq (.ops [.o 69 (.mv (.t 6)), .o 70 (.bin .gtr (.t 69) (.c (.int .i64 0)))])
  (.cond (.t 70)
  (.seq (.ops [.o 71 (.ld true 71 (.t 1)), .o 72 (.mv (.t 6)), .o 73 (.build (.st (.cons (.val (.int .i64 0)) (.cons (.val (.int .i64 0)) (.cons (.val (.int .i64 0)) (.cons (.val (.int .i64 0)) .nil))))) [(0, 0, 1, (.c (.int .i64 6))), (3, 3, 1, (.t 72))]), .o 74 (.call 65 [(.t 71), (.t 73)]), .n (.sto 71 (.t 1) (.t 74))])
  (.seq (.dops [.o 75 (.ld true 71 (.t 1)), .o 76 (.mv (.t 6)), .o 77 (.call 46 [(.c (.slice none 0 0)), (.c (.int .i64 3)), (.c (.int .i64 8)), (.t 76)]), .o 78 (.call 45 [(.t 75), (.t 77)]), .n (.sto 71 (.t 1) (.t 78))])
  (.ops [.o 79 (.ld true 71 (.t 1)), .o 80 (.mv (.t 6)), .o 81 (.call 73 [(.t 79), (.c (.int .i64 5)), (.t 80)]), .n (.sto 71 (.t 1) (.t 81))])))
  .skip)))))
  (.ops [.o 42 (.mv (.t 4)), .o 43 (.bin .add (.t 42) (.c (.int .i64 1))), .o 4 (.mv (.t 43))]))))))
  (.seq (.ops [.o 82 (.fa 1 18 (.t 1)), .o 83 (.fa 2 7 (.t 82)), .o 84 (.ld false 1 (.t 83)), .o 85 (.mv (.t 3)), .o 86 (.call 95 [(.t 84), (.t 85)]), .o 87 (.fa 1 18 (.t 1)), .o 88 (.fa 2 7 (.t 87)), .n (.sto 1 (.t 88) (.t 86))])
  (.seq (.ops [.o 89 (.ld true 71 (.t 1)), .n (.sto 71 (.t 2) (.t 89))])
  .ret))))))
theorem hc_r14_charged : compF Tryz.prog 90 Tryz.f67 = some (ic_r14_charged, [.c 2 true 71]) := by kernel_rfl

theorem fn_r14_parted : Tryz.prog.funcs[r14_parted]? = some Tryz.f68 := Tryz.func68
theorem nt_r14_parted : Tryz.f68.ntmps = 34 := Tryz.ntmps68
def ic_r14_parted : IC := (.seq (.ops [.o 3 (.box (.t 0)), .o 4 (.box (.t 1)), .o 6 (.alloc (.st (.cons (.val (.int .i64 0)) (.cons (.val (.int .i64 0)) (.cons (.val (.int .i64 0)) (.cons (.val (.int .i64 0)) (.cons (.val (.int .i64 0)) .nil))))))), .o 7 (.mv (.c (.int .i64 0)))])
  (.seq (.seq (.ops [.o 8 (.fa 4 20 (.t 4)), .o 9 (.fa 0 0 (.t 8)), .o 10 (.ld false 1 (.t 9))])
  (.block 0 (.seq (.ops [.o 12 (.bin .eql (.t 10) (.c (.int .i64 9))), .o 11 (.mv (.t 12))])
  (.cond (.t 11)
  (.seq (.ops [.o 13 (.mv (.t 2)), .o 14 (.build (.st (.cons (.val (.int .i64 0)) (.cons (.val (.int .i64 0)) (.cons (.val (.int .i64 0)) (.cons (.val (.int .i64 0)) (.cons (.val (.int .i64 0)) .nil)))))) [(3, 3, 1, (.t 13))]), .n (.sto 5 (.t 6) (.t 14)), .o 7 (.mv (.c (.int .i64 0)))])
  .ret)
  (.seq (.ops [.o 16 (.bin .eql (.t 10) (.c (.int .i64 8))), .o 15 (.mv (.t 16))])
  (.cond (.t 15)
  (.seq (.dops [.o 17 (.fa 10 44 (.t 4)), .o 18 (.ld false 1 (.t 17)), .o 19 (.ld true 46 (.t 4)), .o 20 (.call 74 [(.t 19), (.c (.int .i64 10))]), .o 21 (.bin .sub (.t 18) (.t 20)), .o 22 (.mv (.t 2)), .o 23 (.call 96 [(.t 21), (.t 22)]), .o 24 (.ext 0 (.t 23)), .o 25 (.ext 1 (.t 23)), .n (.sto 5 (.t 6) (.t 24)), .o 7 (.mv (.t 25))])
  .ret)
  .skip))))))
  (.seq (.dops [.o 26 (.fa 12 12 (.t 3)), .o 27 (.ld false 1 (.t 26)), .o 28 (.ld true 46 (.t 4)), .o 29 (.call 75 [(.t 28)]), .o 30 (.mv (.t 2)), .o 31 (.call 97 [(.t 27), (.t 29), (.t 30)]), .o 32 (.ext 0 (.t 31)), .o 33 (.ext 1 (.t 31)), .n (.sto 5 (.t 6) (.t 32)), .o 7 (.mv (.t 33))])
  .ret)))
theorem hc_r14_parted : compF Tryz.prog 34 Tryz.f68 = some (ic_r14_parted, [.c 6 true 5, .t 7]) := by kernel_rfl

theorem fn_r9_Entries : Tryz.prog.funcs[r9_Entries]? = some Tryz.f69 := Tryz.func69
theorem nt_r9_Entries : Tryz.f69.ntmps = 5 := Tryz.ntmps69
def ic_r9_Entries : IC := (.seq (.ops [.o 1 (.box (.t 0)), .o 2 (.mv (.c (.slice none 0 0)))])
  (.seq (.ops [.o 3 (.ld true 5 (.t 1)), .o 4 (.call 98 [(.t 3), (.c (.bool false))]), .o 2 (.mv (.t 4))])
  .ret))
theorem hc_r9_Entries : compF Tryz.prog 5 Tryz.f69 = some (ic_r9_Entries, [.t 2]) := by kernel_rfl

theorem fn_r14_settled : Tryz.prog.funcs[r14_settled]? = some Tryz.f70 := Tryz.func70
theorem nt_r14_settled : Tryz.f70.ntmps = 29 := Tryz.ntmps70
def ic_r14_settled : IC := (.seq (.ops [.o 1 (.box (.t 0)), .o 2 (.alloc (.st (.cons (.st (.cons (.val (.int .i64 0)) (.cons (.val (.int .i64 0)) (.cons (.val (.int .i64 0)) (.cons (.val (.int .i64 0)) (.cons (.val (.int .i64 0)) (.cons (.val (.int .i64 0)) (.cons (.val (.int .i64 0)) (.cons (.val (.int .i64 0)) (.cons (.val (.int .i64 0)) (.cons (.val (.int .i64 0)) (.cons (.val (.int .i64 0)) (.cons (.val (.int .i64 0)) (.cons (.val (.int .i64 0)) (.cons (.val (.int .i64 0)) (.cons (.val (.int .i64 0)) (.cons (.val (.int .i64 0)) (.cons (.val (.int .i64 0)) (.cons (.val (.slice none 0 0)) .nil))))))))))))))))))) (.cons (.st (.cons (.val (.int .i64 0)) (.cons (.st (.cons (.val (.int .i64 0)) (.cons (.val (.int .i64 0)) (.cons (.val (.int .i64 0)) (.cons (.val (.int .i64 0)) (.cons (.val (.int .i64 0)) (.cons (.val (.int .i64 0)) .nil))))))) (.cons (.val (.slice none 0 0)) (.cons (.st (.cons (.arr 12 1 fun _ => (.val (.int .i64 0))) .nil)) (.cons (.st (.cons (.val (.int .i64 0)) (.cons (.val (.bool false)) (.cons (.val (.int .i64 0)) (.cons (.val (.int .i64 0)) (.cons (.val (.int .i64 0)) (.cons (.val (.int .i64 0)) (.cons (.val (.int .i64 0)) (.cons (.val (.int .i64 0)) (.cons (.val (.int .i64 0)) (.cons (.val (.int .i64 0)) (.cons (.val (.int .i64 0)) (.cons (.val (.int .i64 0)) (.cons (.val (.int .i64 0)) (.cons (.val (.int .i64 0)) (.cons (.val (.int .i64 0)) .nil)))))))))))))))) (.cons (.val (.int .i64 0)) (.cons (.val (.int .i64 0)) (.cons (.val (.int .i64 0)) (.cons (.st (.cons (.val (.int .i64 0)) (.cons (.val (.int .i64 0)) (.cons (.val (.int .i64 0)) (.cons (.val (.int .i64 0)) (.cons (.val (.int .i64 0)) .nil)))))) (.cons (.val (.bool false)) (.cons (.val (.int .i64 0)) (.cons (.val (.int .i64 0)) .nil))))))))))))) (.cons (.st (.cons (.val (.int .i64 0)) (.cons (.val (.int .i64 0)) (.cons (.val (.int .i64 0)) (.cons (.val (.int .i64 0)) (.cons (.val (.int .i64 0)) .nil)))))) (.cons (.val (.slice none 0 0)) (.cons (.val (.int .i64 0)) .nil)))))))])
  (.seq (.ops [.o 4 (.fa 1 18 (.t 1)), .o 5 (.ld true 46 (.t 4)), .o 6 (.call 75 [(.t 5)]), .o 3 (.alloc (.st (.cons (.val (.int .i64 0)) (.cons (.val (.int .i64 0)) (.cons (.val (.int .i64 0)) .nil))))), .n (.sto 3 (.t 3) (.t 6))])
  (.seq (.seq (.ops [.o 7 (.fa 4 70 (.t 1)), .o 8 (.ld false 1 (.t 7)), .o 9 (.bin .eql (.t 8) (.c (.int .i64 0))), .o 10 (.mv (.t 9)), .og 11 10 true (.fa 0 0 (.t 3)), .og 12 10 true (.ld false 1 (.t 11)), .og 13 10 true (.bin .eql (.t 12) (.c (.int .i64 0))), .o 14 (.pick (.t 10) (.t 13) (.c (.bool false))), .o 15 (.mv (.t 14)), .og 16 15 true (.fa 1 1 (.t 3)), .og 17 15 true (.ld false 1 (.t 16)), .og 18 15 true (.bin .eql (.t 17) (.c (.int .i64 0))), .o 19 (.pick (.t 15) (.t 18) (.c (.bool false))), .o 20 (.mv (.t 19)), .og 21 20 true (.fa 2 2 (.t 3)), .og 22 20 true (.ld false 1 (.t 21)), .og 23 20 true (.bin .eql (.t 22) (.c (.int .i64 0))), .o 24 (.pick (.t 20) (.t 23) (.c (.bool false)))])
  (.cond (.t 24)
  (.seq (.ops [.o 25 (.ld true 71 (.t 1)), .o 26 (.build (.st (.cons (.val (.int .i64 0)) (.cons (.val (.int .i64 0)) (.cons (.val (.int .i64 0)) (.cons (.val (.int .i64 0)) .nil))))) [(0, 0, 1, (.c (.int .i64 7)))]), .o 27 (.call 65 [(.t 25), (.t 26)]), .n (.sto 71 (.t 2) (.t 27))])
  .ret)
  .skip))
  (.seq (.ops [.o 28 (.ld true 71 (.t 1)), .n (.sto 71 (.t 2) (.t 28))])
  .ret))))
theorem hc_r14_settled : compF Tryz.prog 29 Tryz.f70 = some (ic_r14_settled, [.c 2 true 71]) := by kernel_rfl

theorem fn_r9_Undo : Tryz.prog.funcs[r9_Undo]? = some Tryz.f71 := Tryz.func71
theorem nt_r9_Undo : Tryz.f71.ntmps = 5 := Tryz.ntmps71
def ic_r9_Undo : IC := (.seq (.ops [.o 1 (.box (.t 0)), .o 2 (.mv (.c (.slice none 0 0)))])
  (.seq (.ops [.o 3 (.ld true 5 (.t 1)), .o 4 (.call 98 [(.t 3), (.c (.bool true))]), .o 2 (.mv (.t 4))])
  .ret))
theorem hc_r9_Undo : compF Tryz.prog 5 Tryz.f71 = some (ic_r9_Undo, [.t 2]) := by kernel_rfl

theorem fn_r14_forgotten : Tryz.prog.funcs[r14_forgotten]? = some Tryz.f72 := Tryz.func72
theorem nt_r14_forgotten : Tryz.f72.ntmps = 12 := Tryz.ntmps72
def ic_r14_forgotten : IC := (.seq (.ops [.o 1 (.box (.t 0)), .o 2 (.alloc (.st (.cons (.st (.cons (.val (.int .i64 0)) (.cons (.val (.int .i64 0)) (.cons (.val (.int .i64 0)) (.cons (.val (.int .i64 0)) (.cons (.val (.int .i64 0)) (.cons (.val (.int .i64 0)) (.cons (.val (.int .i64 0)) (.cons (.val (.int .i64 0)) (.cons (.val (.int .i64 0)) (.cons (.val (.int .i64 0)) (.cons (.val (.int .i64 0)) (.cons (.val (.int .i64 0)) (.cons (.val (.int .i64 0)) (.cons (.val (.int .i64 0)) (.cons (.val (.int .i64 0)) (.cons (.val (.int .i64 0)) (.cons (.val (.int .i64 0)) (.cons (.val (.slice none 0 0)) .nil))))))))))))))))))) (.cons (.st (.cons (.val (.int .i64 0)) (.cons (.st (.cons (.val (.int .i64 0)) (.cons (.val (.int .i64 0)) (.cons (.val (.int .i64 0)) (.cons (.val (.int .i64 0)) (.cons (.val (.int .i64 0)) (.cons (.val (.int .i64 0)) .nil))))))) (.cons (.val (.slice none 0 0)) (.cons (.st (.cons (.arr 12 1 fun _ => (.val (.int .i64 0))) .nil)) (.cons (.st (.cons (.val (.int .i64 0)) (.cons (.val (.bool false)) (.cons (.val (.int .i64 0)) (.cons (.val (.int .i64 0)) (.cons (.val (.int .i64 0)) (.cons (.val (.int .i64 0)) (.cons (.val (.int .i64 0)) (.cons (.val (.int .i64 0)) (.cons (.val (.int .i64 0)) (.cons (.val (.int .i64 0)) (.cons (.val (.int .i64 0)) (.cons (.val (.int .i64 0)) (.cons (.val (.int .i64 0)) (.cons (.val (.int .i64 0)) (.cons (.val (.int .i64 0)) .nil)))))))))))))))) (.cons (.val (.int .i64 0)) (.cons (.val (.int .i64 0)) (.cons (.val (.int .i64 0)) (.cons (.st (.cons (.val (.int .i64 0)) (.cons (.val (.int .i64 0)) (.cons (.val (.int .i64 0)) (.cons (.val (.int .i64 0)) (.cons (.val (.int .i64 0)) .nil)))))) (.cons (.val (.bool false)) (.cons (.val (.int .i64 0)) (.cons (.val (.int .i64 0)) .nil))))))))))))) (.cons (.st (.cons (.val (.int .i64 0)) (.cons (.val (.int .i64 0)) (.cons (.val (.int .i64 0)) (.cons (.val (.int .i64 0)) (.cons (.val (.int .i64 0)) .nil)))))) (.cons (.val (.slice none 0 0)) (.cons (.val (.int .i64 0)) .nil)))))))])
  (.seq (.seq (.ops [.o 3 (.fa 4 70 (.t 1)), .o 4 (.ld false 1 (.t 3)), .o 5 (.bin .eql (.t 4) (.c (.int .i64 0)))])
  (.cond (.t 5)
  (.seq (.ops [.o 6 (.fa 1 18 (.t 1)), .o 7 (.fa 9 43 (.t 6)), .n (.sto 1 (.t 7) (.c (.bool false)))])
  (.ops [.o 8 (.build (.st (.cons (.val (.int .i64 0)) (.cons (.val (.int .i64 0)) (.cons (.val (.int .i64 0)) (.cons (.val (.int .i64 0)) (.cons (.val (.int .i64 0)) .nil)))))) []), .o 9 (.fa 1 18 (.t 1)), .o 10 (.fa 8 38 (.t 9)), .n (.sto 5 (.t 10) (.t 8))]))
  .skip))
  (.seq (.ops [.o 11 (.ld true 71 (.t 1)), .n (.sto 71 (.t 2) (.t 11))])
  .ret)))
theorem hc_r14_forgotten : compF Tryz.prog 12 Tryz.f72 = some (ic_r14_forgotten, [.c 2 true 71]) := by kernel_rfl

theorem fn_r14_noted : Tryz.prog.funcs[r14_noted]? = some Tryz.f73 := Tryz.func73
theorem nt_r14_noted : Tryz.f73.ntmps = 25 := Tryz.ntmps73
def ic_r14_noted : IC := (.seq (.ops [.o 3 (.box (.t 0)), .o 6 (.alloc (.st (.cons (.st (.cons (.val (.int .i64 0)) (.cons (.val (.int .i64 0)) (.cons (.val (.int .i64 0)) (.cons (.val (.int .i64 0)) (.cons (.val (.int .i64 0)) (.cons (.val (.int .i64 0)) (.cons (.val (.int .i64 0)) (.cons (.val (.int .i64 0)) (.cons (.val (.int .i64 0)) (.cons (.val (.int .i64 0)) (.cons (.val (.int .i64 0)) (.cons (.val (.int .i64 0)) (.cons (.val (.int .i64 0)) (.cons (.val (.int .i64 0)) (.cons (.val (.int .i64 0)) (.cons (.val (.int .i64 0)) (.cons (.val (.int .i64 0)) (.cons (.val (.slice none 0 0)) .nil))))))))))))))))))) (.cons (.st (.cons (.val (.int .i64 0)) (.cons (.st (.cons (.val (.int .i64 0)) (.cons (.val (.int .i64 0)) (.cons (.val (.int .i64 0)) (.cons (.val (.int .i64 0)) (.cons (.val (.int .i64 0)) (.cons (.val (.int .i64 0)) .nil))))))) (.cons (.val (.slice none 0 0)) (.cons (.st (.cons (.arr 12 1 fun _ => (.val (.int .i64 0))) .nil)) (.cons (.st (.cons (.val (.int .i64 0)) (.cons (.val (.bool false)) (.cons (.val (.int .i64 0)) (.cons (.val (.int .i64 0)) (.cons (.val (.int .i64 0)) (.cons (.val (.int .i64 0)) (.cons (.val (.int .i64 0)) (.cons (.val (.int .i64 0)) (.cons (.val (.int .i64 0)) (.cons (.val (.int .i64 0)) (.cons (.val (.int .i64 0)) (.cons (.val (.int .i64 0)) (.cons (.val (.int .i64 0)) (.cons (.val (.int .i64 0)) (.cons (.val (.int .i64 0)) .nil)))))))))))))))) (.cons (.val (.int .i64 0)) (.cons (.val (.int .i64 0)) (.cons (.val (.int .i64 0)) (.cons (.st (.cons (.val (.int .i64 0)) (.cons (.val (.int .i64 0)) (.cons (.val (.int .i64 0)) (.cons (.val (.int .i64 0)) (.cons (.val (.int .i64 0)) .nil)))))) (.cons (.val (.bool false)) (.cons (.val (.int .i64 0)) (.cons (.val (.int .i64 0)) .nil))))))))))))) (.cons (.st (.cons (.val (.int .i64 0)) (.cons (.val (.int .i64 0)) (.cons (.val (.int .i64 0)) (.cons (.val (.int .i64 0)) (.cons (.val (.int .i64 0)) .nil)))))) (.cons (.val (.slice none 0 0)) (.cons (.val (.int .i64 0)) .nil)))))))])
  (.seq (.seq (.ops [.o 7 (.fa 4 70 (.t 3)), .o 8 (.ld false 1 (.t 7)), .o 9 (.bin .eql (.t 8) (.c (.int .i64 0)))])
  (.cond (.t 9)
  (.ops [.o 10 (.fa 3 69 (.t 3)), .o 11 (.ld false 1 (.t 10)), .o 12 (.fa 1 18 (.t 3)), .o 13 (.fa 0 0 (.t 12)), .o 14 (.ld false 1 (.t 13)), .o 15 (.mv (.t 1)), .o 16 (.fa 1 18 (.t 3)), .o 17 (.fa 5 35 (.t 16)), .o 18 (.ld false 1 (.t 17)), .o 19 (.mv (.t 2)), .o 20 (.build (.st (.cons (.val (.int .i64 0)) (.cons (.val (.int .i64 0)) (.cons (.val (.int .i64 0)) (.cons (.val (.int .i64 0)) (.cons (.val (.int .i64 0)) (.cons (.val (.bool false)) .nil))))))) [(1, 1, 1, (.t 14)), (2, 2, 1, (.t 15)), (3, 3, 1, (.t 18)), (4, 4, 1, (.t 19))]), .o 21 (.bsl 6 66 (.st (.cons (.val (.int .i64 0)) (.cons (.val (.int .i64 0)) (.cons (.val (.int .i64 0)) (.cons (.val (.int .i64 0)) (.cons (.val (.int .i64 0)) (.cons (.val (.bool false)) .nil))))))) [(0, 0, 6, (.t 20))]), .o 22 (.app 6 48 66 (.t 11) (.t 21)), .o 23 (.fa 3 69 (.t 3)), .n (.sto 1 (.t 23) (.t 22))])
  .skip))
  (.seq (.ops [.o 24 (.ld true 71 (.t 3)), .n (.sto 71 (.t 6) (.t 24))])
  .ret)))
theorem hc_r14_noted : compF Tryz.prog 25 Tryz.f73 = some (ic_r14_noted, [.c 6 true 71]) := by kernel_rfl

theorem fn_r14_of : Tryz.prog.funcs[r14_of]? = some Tryz.f74 := Tryz.func74
theorem nt_r14_of : Tryz.f74.ntmps = 15 := Tryz.ntmps74
def ic_r14_of : IC := (.seq (.ops [.o 2 (.box (.t 0)), .o 4 (.mv (.c (.int .i64 0)))])
  (.seq (.ops [.o 8 (.fa 3 8 (.t 2)), .o 9 (.ld true 12 (.t 8)), .o 10 (.mv (.t 1)), .o 11 (.call 55 [(.t 9), (.t 10)]), .o 7 (.mv (.t 11)), .o 12 (.ext 0 (.t 7)), .o 13 (.ext 1 (.t 7)), .o 5 (.mv (.t 12)), .o 6 (.mv (.t 13))])
  (.seq (.ops [.o 14 (.mv (.t 5)), .o 4 (.mv (.t 14))])
  .ret)))
theorem hc_r14_of : compF Tryz.prog 15 Tryz.f74 = some (ic_r14_of, [.t 4]) := by kernel_rfl

theorem fn_r14_owed : Tryz.prog.funcs[r14_owed]? = some Tryz.f75 := Tryz.func75
theorem nt_r14_owed : Tryz.f75.ntmps = 10 := Tryz.ntmps75
def ic_r14_owed : IC := (.seq (.ops [.o 1 (.box (.t 0)), .o 2 (.alloc (.st (.cons (.val (.int .i64 0)) (.cons (.val (.int .i64 0)) (.cons (.val (.int .i64 0)) .nil)))))])
  (.seq (.dops [.o 3 (.ld true 46 (.t 1)), .o 4 (.call 74 [(.t 3), (.c (.int .i64 3))]), .o 5 (.ld true 46 (.t 1)), .o 6 (.call 74 [(.t 5), (.c (.int .i64 2))]), .o 7 (.ld true 46 (.t 1)), .o 8 (.call 74 [(.t 7), (.c (.int .i64 1))]), .o 9 (.build (.st (.cons (.val (.int .i64 0)) (.cons (.val (.int .i64 0)) (.cons (.val (.int .i64 0)) .nil)))) [(0, 0, 1, (.t 4)), (1, 1, 1, (.t 6)), (2, 2, 1, (.t 8))]), .n (.sto 3 (.t 2) (.t 9))])
  .ret))
theorem hc_r14_owed : compF Tryz.prog 10 Tryz.f75 = some (ic_r14_owed, [.c 2 true 3]) := by kernel_rfl

theorem fn_r14_sum : Tryz.prog.funcs[r14_sum]? = some Tryz.f76 := Tryz.func76
theorem nt_r14_sum : Tryz.f76.ntmps = 11 := Tryz.ntmps76
def ic_r14_sum : IC := (.seq (.ops [.o 1 (.box (.t 0)), .o 2 (.mv (.c (.int .i64 0)))])
  (.seq (.ops [.o 3 (.fa 0 0 (.t 1)), .o 4 (.ld false 1 (.t 3)), .o 5 (.fa 1 1 (.t 1)), .o 6 (.ld false 1 (.t 5)), .o 7 (.bin .add (.t 4) (.t 6)), .o 8 (.fa 2 2 (.t 1)), .o 9 (.ld false 1 (.t 8)), .o 10 (.bin .add (.t 7) (.t 9)), .o 2 (.mv (.t 10))])
  .ret))
theorem hc_r14_sum : compF Tryz.prog 11 Tryz.f76 = some (ic_r14_sum, [.t 2]) := by kernel_rfl

theorem fn_r8_is : Tryz.prog.funcs[r8_is]? = some Tryz.f77 := Tryz.func77
theorem nt_r8_is : Tryz.f77.ntmps = 9 := Tryz.ntmps77
def ic_r8_is : IC := (.seq (.ops [.o 2 (.mv (.c (.bool false)))])
  (.seq (.ops [.o 3 (.mv (.t 0)), .o 4 (.bin .geq (.t 3) (.c (.int .i64 0))), .o 5 (.mv (.t 4)), .og 6 5 true (.mv (.t 0)), .og 7 5 true (.bin .lss (.t 6) (.c (.int .i64 12))), .o 8 (.pick (.t 5) (.t 7) (.c (.bool false))), .o 2 (.mv (.t 8))])
  .ret))
theorem hc_r8_is : compF Tryz.prog 9 Tryz.f77 = some (ic_r8_is, [.t 2]) := by kernel_rfl

theorem fn_r8_Debits : Tryz.prog.funcs[r8_Debits]? = some Tryz.f78 := Tryz.func78
theorem nt_r8_Debits : Tryz.f78.ntmps = 11 := Tryz.ntmps78
def ic_r8_Debits : IC := (.seq (.ops [.o 2 (.mv (.c (.bool false)))])
  (.seq (.seq (.ops [.o 3 (.mv (.t 0))])
  (.block 0 (.seq (.seq (.ops [.o 5 (.bin .eql (.t 3) (.c (.int .i64 0))), .o 4 (.mv (.t 5))])
  (.cond (.t 4)
  .skip
  (.seq (.ops [.o 6 (.bin .eql (.t 3) (.c (.int .i64 1))), .o 4 (.mv (.t 6))])
  (.cond (.t 4)
  .skip
  (.seq (.ops [.o 7 (.bin .eql (.t 3) (.c (.int .i64 2))), .o 4 (.mv (.t 7))])
  (.cond (.t 4)
  .skip
  (.seq (.ops [.o 8 (.bin .eql (.t 3) (.c (.int .i64 3))), .o 4 (.mv (.t 8))])
  (.cond (.t 4)
  .skip
  (.seq (.ops [.o 9 (.bin .eql (.t 3) (.c (.int .i64 9))), .o 4 (.mv (.t 9))])
  (.cond (.t 4)
  .skip
  (.ops [.o 10 (.bin .eql (.t 3) (.c (.int .i64 11))), .o 4 (.mv (.t 10))])))))))))))
  (.cond (.t 4)
  (.seq (.ops [.o 2 (.mv (.c (.bool true)))])
  .ret)
  .skip))))
  (.seq (.ops [.o 2 (.mv (.c (.bool false)))])
  .ret)))
theorem hc_r8_Debits : compF Tryz.prog 11 Tryz.f78 = some (ic_r8_Debits, [.t 2]) := by kernel_rfl

theorem fn_r3_isRate : Tryz.prog.funcs[r3_isRate]? = some Tryz.f79 := Tryz.func79
theorem nt_r3_isRate : Tryz.f79.ntmps = 9 := Tryz.ntmps79
def ic_r3_isRate : IC := (.seq (.ops [.o 2 (.mv (.c (.bool false)))])
  (.seq (.ops [.o 3 (.mv (.t 0)), .o 4 (.bin .geq (.t 3) (.c (.int .i64 0))), .o 5 (.mv (.t 4)), .og 6 5 true (.mv (.t 0)), .og 7 5 true (.bin .leq (.t 6) (.c (.int .i64 100000))), .o 8 (.pick (.t 5) (.t 7) (.c (.bool false))), .o 2 (.mv (.t 8))])
  .ret))
theorem hc_r3_isRate : compF Tryz.prog 9 Tryz.f79 = some (ic_r3_isRate, [.t 2]) := by kernel_rfl

theorem fn_r3_PaysOff : Tryz.prog.funcs[r3_PaysOff]? = some Tryz.f80 := Tryz.func80
theorem nt_r3_PaysOff : Tryz.f80.ntmps = 32 := Tryz.ntmps80
def ic_r3_PaysOff : IC := (.seq (.ops [.o 8 (.mv (.c (.bool false)))])
  (.seq (.seq (.ops [.o 9 (.mv (.c (.int .i64 0)))])
  (.block 0 (.loop (.seq (.seq (.ops [.o 11 (.mv (.t 9)), .o 12 (.mv (.t 3)), .o 13 (.bin .lss (.t 11) (.t 12))])
  (.cond (.t 13)
  .skip
  (.exit 0)))
  (.seq (.block 1 (.seq (.ops [.o 16 (.mv (.t 1)), .o 17 (.mv (.t 2)), .o 18 (.call 59 [(.t 16), (.t 17)]), .o 10 (.mv (.t 18))])
  (.seq (.seq (.ops [.o 19 (.mv (.t 0)), .o 20 (.mv (.t 10)), .o 21 (.bin .leq (.t 19) (.t 20))])
  (.cond (.t 21)
  (.seq (.ops [.o 8 (.mv (.c (.bool false)))])
  .ret)
  .skip))
  (.seq (.seq (.ops [.o 22 (.mv (.t 0)), .o 23 (.mv (.t 10)), .o 24 (.bin .sub (.t 22) (.t 23)), .o 25 (.mv (.t 1)), .o 26 (.bin .geq (.t 24) (.t 25))])
  (.cond (.t 26)
  (.seq (.ops [.o 8 (.mv (.c (.bool true)))])
  .ret)
  .skip))
  (.ops [.o 27 (.mv (.t 1)), .o 28 (.mv (.t 0)), .o 29 (.mv (.t 10)), .o 30 (.bin .sub (.t 28) (.t 29)), .o 31 (.bin .sub (.t 27) (.t 30)), .o 1 (.mv (.t 31))])))))
  (.ops [.o 14 (.mv (.t 9)), .o 15 (.bin .add (.t 14) (.c (.int .i64 1))), .o 9 (.mv (.t 15))]))))))
  (.seq (.ops [.o 8 (.mv (.c (.bool false)))])
  .ret)))
theorem hc_r3_PaysOff : compF Tryz.prog 32 Tryz.f80 = some (ic_r3_PaysOff, [.t 8]) := by kernel_rfl

theorem fn_r2_Civil : Tryz.prog.funcs[r2_Civil]? = some Tryz.f81 := Tryz.func81
theorem nt_r2_Civil : Tryz.f81.ntmps = 48 := Tryz.ntmps81
def ic_r2_Civil : IC := (.seq (.ops [.o 2 (.alloc (.st (.cons (.val (.int .i64 0)) (.cons (.val (.int .i64 0)) (.cons (.val (.int .i64 0)) .nil))))), .o 3 (.mv (.c (.bool false)))])
  (.seq (.seq (.ops [.o 8 (.mv (.t 0)), .o 9 (.call 99 [(.t 8)]), .o 10 (.un .not (.t 9))])
  (.cond (.t 10)
  (.seq (.ops [.o 11 (.build (.st (.cons (.val (.int .i64 0)) (.cons (.val (.int .i64 0)) (.cons (.val (.int .i64 0)) .nil)))) []), .n (.sto 3 (.t 2) (.t 11)), .o 3 (.mv (.c (.bool false)))])
  .ret)
  .skip))
  (.seq (.ops [.o 12 (.mv (.t 0)), .o 13 (.bin .sub (.t 12) (.c (.int .i64 1))), .o 14 (.bin .quo (.t 13) (.c (.int .i64 146097))), .o 4 (.mv (.t 14))])
  (.seq (.ops [.o 15 (.mv (.t 0)), .o 16 (.mv (.t 4)), .o 17 (.bin .mul (.t 16) (.c (.int .i64 146097))), .o 18 (.bin .sub (.t 15) (.t 17)), .o 5 (.mv (.t 18))])
  (.seq (.ops [.o 19 (.mv (.t 4)), .o 20 (.bin .mul (.c (.int .i64 400)) (.t 19)), .o 21 (.bin .add (.t 20) (.c (.int .i64 1))), .o 6 (.mv (.t 21))])
  (.seq (.block 0 (.loop (.seq (.seq (.ops [.o 22 (.mv (.t 5)), .o 23 (.mv (.t 6)), .o 24 (.call 100 [(.t 23)]), .o 25 (.bin .gtr (.t 22) (.t 24))])
  (.cond (.t 25)
  .skip
  (.exit 0)))
  (.block 1 (.seq (.ops [.o 26 (.mv (.t 5)), .o 27 (.mv (.t 6)), .o 28 (.call 100 [(.t 27)]), .o 29 (.bin .sub (.t 26) (.t 28)), .o 5 (.mv (.t 29))])
  (.ops [.o 30 (.mv (.t 6)), .o 31 (.bin .add (.t 30) (.c (.int .i64 1))), .o 6 (.mv (.t 31))]))))))
  (.seq (.ops [.o 7 (.mv (.c (.int .i64 1)))])
  (.seq (.block 2 (.loop (.seq (.seq (.ops [.o 32 (.mv (.t 5)), .o 33 (.mv (.t 6)), .o 34 (.mv (.t 7)), .o 35 (.call 101 [(.t 33), (.t 34)]), .o 36 (.bin .gtr (.t 32) (.t 35))])
  (.cond (.t 36)
  .skip
  (.exit 2)))
  (.block 3 (.seq (.ops [.o 37 (.mv (.t 5)), .o 38 (.mv (.t 6)), .o 39 (.mv (.t 7)), .o 40 (.call 101 [(.t 38), (.t 39)]), .o 41 (.bin .sub (.t 37) (.t 40)), .o 5 (.mv (.t 41))])
  (.ops [.o 42 (.mv (.t 7)), .o 43 (.bin .add (.t 42) (.c (.int .i64 1))), .o 7 (.mv (.t 43))]))))))
  (.seq (.ops [.o 44 (.mv (.t 6)), .o 45 (.mv (.t 7)), .o 46 (.mv (.t 5)), .o 47 (.build (.st (.cons (.val (.int .i64 0)) (.cons (.val (.int .i64 0)) (.cons (.val (.int .i64 0)) .nil)))) [(0, 0, 1, (.t 44)), (1, 1, 1, (.t 45)), (2, 2, 1, (.t 46))]), .n (.sto 3 (.t 2) (.t 47)), .o 3 (.mv (.c (.bool true)))])
  .ret)))))))))
theorem hc_r2_Civil : compF Tryz.prog 48 Tryz.f81 = some (ic_r2_Civil, [.c 2 true 3, .t 3]) := by kernel_rfl

theorem fn_r2_AddMonths : Tryz.prog.funcs[r2_AddMonths]? = some Tryz.f82 := Tryz.func82
theorem nt_r2_AddMonths : Tryz.f82.ntmps = 78 := Tryz.ntmps82
def ic_r2_AddMonths : IC := (.seq (.ops [.o 6 (.mv (.c (.int .i64 0))), .o 7 (.mv (.c (.bool false)))])
  (.seq (.seq (.ops [.o 16 (.mv (.t 0)), .o 17 (.call 99 [(.t 16)]), .o 18 (.un .not (.t 17)), .o 19 (.mv (.t 18)), .og 20 19 false (.mv (.t 2)), .og 21 19 false (.bin .lss (.t 20) (.c (.int .i64 1))), .o 22 (.pick (.t 19) (.c (.bool true)) (.t 21)), .o 23 (.mv (.t 22)), .og 24 23 false (.mv (.t 2)), .og 25 23 false (.bin .gtr (.t 24) (.c (.int .i64 31))), .o 26 (.pick (.t 23) (.c (.bool true)) (.t 25)), .o 27 (.mv (.t 26)), .og 28 27 false (.mv (.t 1)), .og 29 27 false (.bin .lss (.t 28) (.c (.int .i64 (-119987)))), .o 30 (.pick (.t 27) (.c (.bool true)) (.t 29)), .o 31 (.mv (.t 30)), .og 32 31 false (.mv (.t 1)), .og 33 31 false (.bin .gtr (.t 32) (.c (.int .i64 119987))), .o 34 (.pick (.t 31) (.c (.bool true)) (.t 33))])
  (.cond (.t 34)
  (.seq (.ops [.o 6 (.mv (.c (.int .i64 0))), .o 7 (.mv (.c (.bool false)))])
  .ret)
  .skip))
  (.seq (.ops [.o 36 (.mv (.t 0)), .o 37 (.call 81 [(.t 36)]), .o 35 (.mv (.t 37)), .o 38 (.ext 0 (.t 35)), .o 39 (.ext 1 (.t 35)), .o 8 (.alloc (.st (.cons (.val (.int .i64 0)) (.cons (.val (.int .i64 0)) (.cons (.val (.int .i64 0)) .nil))))), .n (.sto 3 (.t 8) (.t 38)), .o 9 (.mv (.t 39))])
  (.seq (.ops [.o 40 (.fa 0 0 (.t 8)), .o 41 (.ld false 1 (.t 40)), .o 42 (.bin .sub (.t 41) (.c (.int .i64 1))), .o 43 (.bin .mul (.c (.int .i64 12)) (.t 42)), .o 44 (.fa 1 1 (.t 8)), .o 45 (.ld false 1 (.t 44)), .o 46 (.bin .add (.t 43) (.t 45)), .o 47 (.bin .sub (.t 46) (.c (.int .i64 1))), .o 48 (.mv (.t 1)), .o 49 (.bin .add (.t 47) (.t 48)), .o 10 (.mv (.t 49))])
  (.seq (.seq (.ops [.o 50 (.mv (.t 10)), .o 51 (.bin .lss (.t 50) (.c (.int .i64 0))), .o 52 (.mv (.t 51)), .og 53 52 false (.mv (.t 10)), .og 54 52 false (.bin .geq (.t 53) (.c (.int .i64 119988))), .o 55 (.pick (.t 52) (.c (.bool true)) (.t 54))])
  (.cond (.t 55)
  (.seq (.ops [.o 6 (.mv (.c (.int .i64 0))), .o 7 (.mv (.c (.bool false)))])
  .ret)
  .skip))
  (.seq (.ops [.o 56 (.mv (.t 10)), .o 57 (.bin .quo (.t 56) (.c (.int .i64 12))), .o 58 (.bin .add (.t 57) (.c (.int .i64 1))), .o 11 (.mv (.t 58))])
  (.seq (.ops [.o 59 (.mv (.t 10)), .o 60 (.bin .rem (.t 59) (.c (.int .i64 12))), .o 61 (.bin .add (.t 60) (.c (.int .i64 1))), .o 12 (.mv (.t 61))])
  (.seq (.ops [.o 62 (.mv (.t 11)), .o 63 (.mv (.t 12)), .o 64 (.call 101 [(.t 62), (.t 63)]), .o 13 (.mv (.t 64))])
  (.seq (.seq (.ops [.o 65 (.mv (.t 2)), .o 66 (.mv (.t 13)), .o 67 (.bin .lss (.t 65) (.t 66))])
  (.cond (.t 67)
  (.ops [.o 68 (.mv (.t 2)), .o 13 (.mv (.t 68))])
  .skip))
  (.seq (.ops [.o 70 (.mv (.t 11)), .o 71 (.mv (.t 12)), .o 72 (.mv (.t 13)), .o 73 (.build (.st (.cons (.val (.int .i64 0)) (.cons (.val (.int .i64 0)) (.cons (.val (.int .i64 0)) .nil)))) [(0, 0, 1, (.t 70)), (1, 1, 1, (.t 71)), (2, 2, 1, (.t 72))]), .o 74 (.call 102 [(.t 73)]), .o 69 (.mv (.t 74)), .o 75 (.ext 0 (.t 69)), .o 76 (.ext 1 (.t 69)), .o 14 (.mv (.t 75)), .o 15 (.mv (.t 76))])
  (.seq (.ops [.o 77 (.mv (.t 14)), .o 6 (.mv (.t 77)), .o 7 (.mv (.c (.bool true)))])
  .ret)))))))))))
theorem hc_r2_AddMonths : compF Tryz.prog 78 Tryz.f82 = some (ic_r2_AddMonths, [.t 6, .t 7]) := by kernel_rfl

theorem fn_r2_Adjust : Tryz.prog.funcs[r2_Adjust]? = some Tryz.f83 := Tryz.func83
theorem nt_r2_Adjust : Tryz.f83.ntmps = 65 := Tryz.ntmps83
def ic_r2_Adjust : IC := (.seq (.ops [.o 6 (.mv (.c (.int .i64 0))), .o 7 (.mv (.c (.bool false)))])
  (.seq (.seq (.ops [.o 14 (.mv (.t 0)), .o 15 (.call 99 [(.t 14)]), .o 16 (.un .not (.t 15))])
  (.cond (.t 16)
  (.seq (.ops [.o 6 (.mv (.c (.int .i64 0))), .o 7 (.mv (.c (.bool false)))])
  .ret)
  .skip))
  (.seq (.seq (.ops [.o 17 (.mv (.t 2))])
  (.block 0 (.seq (.ops [.o 19 (.bin .eql (.t 17) (.c (.int .i64 0))), .o 18 (.mv (.t 19))])
  (.cond (.t 18)
  (.seq (.ops [.o 20 (.mv (.t 0)), .o 6 (.mv (.t 20)), .o 7 (.mv (.c (.bool true)))])
  .ret)
  (.seq (.ops [.o 22 (.bin .eql (.t 17) (.c (.int .i64 1))), .o 21 (.mv (.t 22))])
  (.cond (.t 21)
  (.seq (.ops [.o 23 (.mv (.t 0)), .o 24 (.mv (.t 1)), .o 25 (.call 103 [(.t 23), (.t 24), (.c (.int .i64 1))]), .o 26 (.ext 0 (.t 25)), .o 27 (.ext 1 (.t 25)), .o 6 (.mv (.t 26)), .o 7 (.mv (.t 27))])
  .ret)
  (.seq (.ops [.o 29 (.bin .eql (.t 17) (.c (.int .i64 2))), .o 28 (.mv (.t 29))])
  (.cond (.t 28)
  (.seq (.ops [.o 30 (.mv (.t 0)), .o 31 (.mv (.t 1)), .o 32 (.call 103 [(.t 30), (.t 31), (.c (.int .i64 (-1)))]), .o 33 (.ext 0 (.t 32)), .o 34 (.ext 1 (.t 32)), .o 6 (.mv (.t 33)), .o 7 (.mv (.t 34))])
  .ret)
  (.seq (.ops [.o 36 (.bin .eql (.t 17) (.c (.int .i64 3))), .o 35 (.mv (.t 36))])
  (.cond (.t 35)
  (.seq (.ops [.o 38 (.mv (.t 0)), .o 39 (.mv (.t 1)), .o 40 (.call 103 [(.t 38), (.t 39), (.c (.int .i64 1))]), .o 37 (.mv (.t 40)), .o 41 (.ext 0 (.t 37)), .o 42 (.ext 1 (.t 37)), .o 8 (.mv (.t 41)), .o 9 (.mv (.t 42))])
  (.seq (.seq (.ops [.o 43 (.mv (.t 9))])
  (.cond (.t 43)
  (.seq (.ops [.o 45 (.mv (.t 0)), .o 46 (.call 81 [(.t 45)]), .o 44 (.mv (.t 46)), .o 47 (.ext 0 (.t 44)), .o 48 (.ext 1 (.t 44)), .o 10 (.alloc (.st (.cons (.val (.int .i64 0)) (.cons (.val (.int .i64 0)) (.cons (.val (.int .i64 0)) .nil))))), .n (.sto 3 (.t 10) (.t 47)), .o 11 (.mv (.t 48))])
  (.seq (.ops [.o 50 (.mv (.t 8)), .o 51 (.call 81 [(.t 50)]), .o 49 (.mv (.t 51)), .o 52 (.ext 0 (.t 49)), .o 53 (.ext 1 (.t 49)), .o 12 (.alloc (.st (.cons (.val (.int .i64 0)) (.cons (.val (.int .i64 0)) (.cons (.val (.int .i64 0)) .nil))))), .n (.sto 3 (.t 12) (.t 52)), .o 13 (.mv (.t 53))])
  (.seq (.ops [.o 54 (.fa 1 1 (.t 10)), .o 55 (.ld false 1 (.t 54)), .o 56 (.fa 1 1 (.t 12)), .o 57 (.ld false 1 (.t 56)), .o 58 (.bin .eql (.t 55) (.t 57))])
  (.cond (.t 58)
  (.seq (.ops [.o 59 (.mv (.t 8)), .o 6 (.mv (.t 59)), .o 7 (.mv (.c (.bool true)))])
  .ret)
  .skip))))
  .skip))
  (.seq (.ops [.o 60 (.mv (.t 0)), .o 61 (.mv (.t 1)), .o 62 (.call 103 [(.t 60), (.t 61), (.c (.int .i64 (-1)))]), .o 63 (.ext 0 (.t 62)), .o 64 (.ext 1 (.t 62)), .o 6 (.mv (.t 63)), .o 7 (.mv (.t 64))])
  .ret)))
  .skip))))))))))
  (.seq (.ops [.o 6 (.mv (.c (.int .i64 0))), .o 7 (.mv (.c (.bool false)))])
  .ret))))
theorem hc_r2_Adjust : compF Tryz.prog 65 Tryz.f83 = some (ic_r2_Adjust, [.t 6, .t 7]) := by kernel_rfl

theorem fn_r8_refused : Tryz.prog.funcs[r8_refused]? = some Tryz.f84 := Tryz.func84
theorem nt_r8_refused : Tryz.f84.ntmps = 23 := Tryz.ntmps84
def ic_r8_refused : IC := (.seq (.ops [.o 1 (.box (.t 0)), .o 2 (.mv (.c (.int .i64 0)))])
  (.seq (.seq (.ops [.o 3 (.fa 0 0 (.t 1)), .o 4 (.ld false 1 (.t 3)), .o 5 (.call 77 [(.t 4)]), .o 6 (.un .not (.t 5)), .o 7 (.mv (.t 6)), .og 8 7 false (.fa 1 1 (.t 1)), .og 9 7 false (.ld false 1 (.t 8)), .og 10 7 false (.call 77 [(.t 9)]), .og 11 7 false (.un .not (.t 10)), .o 12 (.pick (.t 7) (.c (.bool true)) (.t 11)), .o 13 (.mv (.t 12)), .og 14 13 false (.fa 0 0 (.t 1)), .og 15 13 false (.ld false 1 (.t 14)), .og 16 13 false (.fa 1 1 (.t 1)), .og 17 13 false (.ld false 1 (.t 16)), .og 18 13 false (.bin .eql (.t 15) (.t 17)), .o 19 (.pick (.t 13) (.c (.bool true)) (.t 18))])
  (.cond (.t 19)
  (.seq (.ops [.o 2 (.mv (.c (.int .i64 80)))])
  .ret)
  .skip))
  (.seq (.seq (.ops [.o 20 (.fa 2 2 (.t 1)), .o 21 (.ld false 1 (.t 20)), .o 22 (.bin .lss (.t 21) (.c (.int .i64 1)))])
  (.cond (.t 22)
  (.seq (.ops [.o 2 (.mv (.c (.int .i64 4)))])
  .ret)
  .skip))
  (.seq (.ops [.o 2 (.mv (.c (.int .i64 0)))])
  .ret))))
theorem hc_r8_refused : compF Tryz.prog 23 Tryz.f84 = some (ic_r8_refused, [.t 2]) := by kernel_rfl

theorem fn_r8_moves : Tryz.prog.funcs[r8_moves]? = some Tryz.f85 := Tryz.func85
theorem nt_r8_moves : Tryz.f85.ntmps = 54 := Tryz.ntmps85
def ic_r8_moves : IC := (.seq (.ops [.o 3 (.box (.t 0)), .o 6 (.mv (.c (.slice none 0 0)))])
  (.seq (.ops [.o 7 (.mv (.c (.slice none 0 0)))])
  (.seq (.ops [.o 9 (.mv (.t 7)), .o 10 (.mv (.t 2)), .o 11 (.fa 0 0 (.t 3)), .o 12 (.ixa 12 1 (.t 11) (.t 10)), .o 13 (.ld false 1 (.t 12)), .o 14 (.bsl 1 2 (.val (.int .i64 0)) [(0, 0, 1, (.t 13))]), .o 15 (.app 1 8 2 (.t 9) (.t 14)), .o 7 (.mv (.t 15))])
  (.seq (.seq (.ops [.o 8 (.mv (.c (.int .i64 0)))])
  (.block 0 (.loop (.seq (.seq (.ops [.o 16 (.mv (.t 8)), .o 17 (.mv (.t 1)), .o 18 (.len (.t 17)), .o 19 (.bin .lss (.t 16) (.t 18))])
  (.cond (.t 19)
  .skip
  (.exit 0)))
  (.seq (.block 1 (.seq (.seq (.ops [.o 22 (.mv (.t 1)), .o 23 (.mv (.t 8)), .o 24 (.ixs 3 (.t 22) (.t 23)), .o 25 (.fa 0 0 (.t 24)), .o 26 (.ld false 1 (.t 25)), .o 27 (.mv (.t 2)), .o 28 (.bin .eql (.t 26) (.t 27))])
  (.cond (.t 28)
  (.ops [.o 29 (.mv (.t 7)), .o 30 (.mv (.t 1)), .o 31 (.mv (.t 8)), .o 32 (.ixs 3 (.t 30) (.t 31)), .o 33 (.fa 2 2 (.t 32)), .o 34 (.ld false 1 (.t 33)), .o 35 (.bsl 1 2 (.val (.int .i64 0)) [(0, 0, 1, (.t 34))]), .o 36 (.app 1 8 2 (.t 29) (.t 35)), .o 7 (.mv (.t 36))])
  .skip))
  (.seq (.ops [.o 37 (.mv (.t 1)), .o 38 (.mv (.t 8)), .o 39 (.ixs 3 (.t 37) (.t 38)), .o 40 (.fa 1 1 (.t 39)), .o 41 (.ld false 1 (.t 40)), .o 42 (.mv (.t 2)), .o 43 (.bin .eql (.t 41) (.t 42))])
  (.cond (.t 43)
  (.ops [.o 44 (.mv (.t 7)), .o 45 (.mv (.t 1)), .o 46 (.mv (.t 8)), .o 47 (.ixs 3 (.t 45) (.t 46)), .o 48 (.fa 2 2 (.t 47)), .o 49 (.ld false 1 (.t 48)), .o 50 (.un .neg (.t 49)), .o 51 (.bsl 1 2 (.val (.int .i64 0)) [(0, 0, 1, (.t 50))]), .o 52 (.app 1 8 2 (.t 44) (.t 51)), .o 7 (.mv (.t 52))])
  .skip))))
  (.ops [.o 20 (.mv (.t 8)), .o 21 (.bin .add (.t 20) (.c (.int .i64 1))), .o 8 (.mv (.t 21))]))))))
  (.seq (.ops [.o 53 (.mv (.t 7)), .o 6 (.mv (.t 53))])
  .ret)))))
theorem hc_r8_moves : compF Tryz.prog 54 Tryz.f85 = some (ic_r8_moves, [.t 6]) := by kernel_rfl

theorem fn_r8_OwnSide : Tryz.prog.funcs[r8_OwnSide]? = some Tryz.f86 := Tryz.func86
theorem nt_r8_OwnSide : Tryz.f86.ntmps = 11 := Tryz.ntmps86
def ic_r8_OwnSide : IC := (.seq (.ops [.o 4 (.mv (.c (.bool false)))])
  (.seq (.seq (.ops [.o 5 (.mv (.t 0)), .o 6 (.call 78 [(.t 5)])])
  (.cond (.t 6)
  (.seq (.ops [.o 7 (.mv (.t 1)), .o 8 (.bin .geq (.t 7) (.c (.int .i64 0))), .o 4 (.mv (.t 8))])
  .ret)
  .skip))
  (.seq (.ops [.o 9 (.mv (.t 1)), .o 10 (.bin .leq (.t 9) (.c (.int .i64 0))), .o 4 (.mv (.t 10))])
  .ret)))
theorem hc_r8_OwnSide : compF Tryz.prog 11 Tryz.f86 = some (ic_r8_OwnSide, [.t 4]) := by kernel_rfl

theorem fn_r3_Span : Tryz.prog.funcs[r3_Span]? = some Tryz.f87 := Tryz.func87
theorem nt_r3_Span : Tryz.f87.ntmps = 70 := Tryz.ntmps87
def ic_r3_Span : IC := (.seq (.ops [.o 8 (.mv (.c (.int .i64 0))), .o 9 (.mv (.c (.int .i64 0))), .o 10 (.mv (.c (.bool false)))])
  (.seq (.seq (.ops [.o 15 (.mv (.t 0)), .o 16 (.bin .lss (.t 15) (.c (.int .i64 0))), .o 17 (.mv (.t 16)), .og 18 17 false (.mv (.t 1)), .og 19 17 false (.call 79 [(.t 18)]), .og 20 17 false (.un .not (.t 19)), .o 21 (.pick (.t 17) (.c (.bool true)) (.t 20)), .o 22 (.mv (.t 21)), .og 23 22 false (.mv (.t 2)), .og 24 22 false (.bin .lss (.t 23) (.c (.int .i64 0))), .o 25 (.pick (.t 22) (.c (.bool true)) (.t 24)), .o 26 (.mv (.t 25)), .og 27 26 false (.mv (.t 2)), .og 28 26 false (.bin .geq (.t 27) (.c (.int .i64 3650000))), .o 29 (.pick (.t 26) (.c (.bool true)) (.t 28)), .o 30 (.mv (.t 29)), .og 31 30 false (.mv (.t 3)), .og 32 30 false (.bin .lss (.t 31) (.c (.int .i64 0))), .o 33 (.pick (.t 30) (.c (.bool true)) (.t 32)), .o 34 (.mv (.t 33)), .og 35 34 false (.mv (.t 3)), .og 36 34 false (.bin .gtr (.t 35) (.c (.int .i64 3652059))), .o 37 (.pick (.t 34) (.c (.bool true)) (.t 36))])
  (.cond (.t 37)
  (.seq (.ops [.o 8 (.mv (.c (.int .i64 0))), .o 9 (.mv (.c (.int .i64 0))), .o 10 (.mv (.c (.bool false)))])
  .ret)
  .skip))
  (.seq (.ops [.o 38 (.mv (.t 3)), .o 11 (.mv (.t 38))])
  (.seq (.ops [.o 39 (.mv (.t 0)), .o 40 (.bin .quo (.t 39) (.c (.int .i64 3650000))), .o 41 (.mv (.t 1)), .o 42 (.bin .mul (.t 40) (.t 41)), .o 12 (.mv (.t 42))])
  (.seq (.ops [.o 43 (.mv (.t 0)), .o 44 (.bin .rem (.t 43) (.c (.int .i64 3650000))), .o 45 (.mv (.t 1)), .o 46 (.bin .mul (.t 44) (.t 45)), .o 47 (.mv (.t 11)), .o 48 (.bin .mul (.t 46) (.t 47)), .o 49 (.mv (.t 2)), .o 50 (.bin .add (.t 48) (.t 49)), .o 13 (.mv (.t 50))])
  (.seq (.ops [.o 51 (.mv (.t 13)), .o 52 (.bin .quo (.t 51) (.c (.int .i64 3650000))), .o 14 (.mv (.t 52))])
  (.seq (.seq (.ops [.o 53 (.mv (.t 11)), .o 54 (.bin .gtr (.t 53) (.c (.int .i64 0))), .o 55 (.mv (.t 54)), .og 56 55 true (.mv (.t 12)), .og 57 55 true (.mv (.t 14)), .og 58 55 true (.bin .sub (.c (.int .i64 9223372036854775807)) (.t 57)), .og 59 55 true (.mv (.t 11)), .og 60 55 true (.bin .quo (.t 58) (.t 59)), .og 61 55 true (.bin .gtr (.t 56) (.t 60)), .o 62 (.pick (.t 55) (.t 61) (.c (.bool false)))])
  (.cond (.t 62)
  (.seq (.ops [.o 8 (.mv (.c (.int .i64 0))), .o 9 (.mv (.c (.int .i64 0))), .o 10 (.mv (.c (.bool false)))])
  .ret)
  .skip))
  (.seq (.ops [.o 63 (.mv (.t 12)), .o 64 (.mv (.t 11)), .o 65 (.bin .mul (.t 63) (.t 64)), .o 66 (.mv (.t 14)), .o 67 (.bin .add (.t 65) (.t 66)), .o 68 (.mv (.t 13)), .o 69 (.bin .rem (.t 68) (.c (.int .i64 3650000))), .o 8 (.mv (.t 67)), .o 9 (.mv (.t 69)), .o 10 (.mv (.c (.bool true)))])
  .ret))))))))
theorem hc_r3_Span : compF Tryz.prog 70 Tryz.f87 = some (ic_r3_Span, [.t 8, .t 9, .t 10]) := by kernel_rfl

theorem fn_r13_Step : Tryz.prog.funcs[r13_Step]? = some Tryz.f88 := Tryz.func88
theorem nt_r13_Step : Tryz.f88.ntmps = 55 := Tryz.ntmps88
def ic_r13_Step : IC := (.seq (.ops [.o 3 (.box (.t 0)), .o 4 (.box (.t 1)), .o 5 (.box (.t 2)), .o 6 (.alloc (.st (.cons (.val (.int .i64 0)) (.cons (.val (.bool false)) (.cons (.val (.int .i64 0)) (.cons (.val (.int .i64 0)) (.cons (.val (.int .i64 0)) (.cons (.val (.int .i64 0)) (.cons (.val (.int .i64 0)) (.cons (.val (.int .i64 0)) (.cons (.val (.int .i64 0)) (.cons (.val (.int .i64 0)) (.cons (.val (.int .i64 0)) (.cons (.val (.int .i64 0)) (.cons (.val (.int .i64 0)) (.cons (.val (.int .i64 0)) (.cons (.val (.int .i64 0)) .nil))))))))))))))))), .o 7 (.mv (.c (.slice none 0 0))), .o 8 (.mv (.c (.int .i64 0)))])
  (.seq (.ops [.o 15 (.ld true 18 (.t 3)), .o 16 (.call 9 [(.t 15)]), .o 14 (.mv (.t 16)), .o 17 (.ext 0 (.t 14)), .o 18 (.ext 1 (.t 14)), .o 9 (.mv (.t 17)), .o 10 (.mv (.t 18))])
  (.seq (.seq (.ops [.o 19 (.mv (.t 9)), .o 20 (.bin .neq (.t 19) (.c (.int .i64 0)))])
  (.cond (.t 20)
  (.seq (.ops [.o 21 (.ld true 15 (.t 4)), .n (.sto 15 (.t 6) (.t 21)), .o 7 (.mv (.c (.slice none 0 0))), .o 8 (.mv (.c (.int .i64 120)))])
  .ret)
  .skip))
  (.seq (.seq (.ops [.o 22 (.fa 0 0 (.t 5)), .o 23 (.ld false 1 (.t 22)), .o 24 (.bin .lss (.t 23) (.c (.int .i64 1))), .o 25 (.mv (.t 24)), .og 26 25 false (.fa 0 0 (.t 5)), .og 27 25 false (.ld false 1 (.t 26)), .og 28 25 false (.bin .gtr (.t 27) (.c (.int .i64 7))), .o 29 (.pick (.t 25) (.c (.bool true)) (.t 28))])
  (.cond (.t 29)
  (.seq (.ops [.o 30 (.ld true 15 (.t 4)), .n (.sto 15 (.t 6) (.t 30)), .o 7 (.mv (.c (.slice none 0 0))), .o 8 (.mv (.c (.int .i64 2)))])
  .ret)
  .skip))
  (.seq (.ops [.o 31 (.ld true 18 (.t 3)), .o 32 (.ld true 4 (.t 5)), .o 33 (.call 104 [(.t 31), (.t 32)]), .o 11 (.mv (.t 33))])
  (.seq (.seq (.ops [.o 34 (.mv (.t 11)), .o 35 (.bin .neq (.t 34) (.c (.int .i64 0)))])
  (.cond (.t 35)
  (.seq (.ops [.o 36 (.ld true 15 (.t 4)), .o 37 (.mv (.t 11)), .n (.sto 15 (.t 6) (.t 36)), .o 7 (.mv (.c (.slice none 0 0))), .o 8 (.mv (.t 37))])
  .ret)
  .skip))
  (.seq (.ops [.o 38 (.ld true 18 (.t 3)), .o 39 (.ld true 15 (.t 4)), .o 40 (.ld true 4 (.t 5)), .o 41 (.call 105 [(.t 38), (.t 39), (.t 40)]), .o 11 (.mv (.t 41))])
  (.seq (.seq (.ops [.o 42 (.mv (.t 11)), .o 43 (.bin .neq (.t 42) (.c (.int .i64 0)))])
  (.cond (.t 43)
  (.seq (.ops [.o 44 (.ld true 15 (.t 4)), .o 45 (.mv (.t 11)), .n (.sto 15 (.t 6) (.t 44)), .o 7 (.mv (.c (.slice none 0 0))), .o 8 (.mv (.t 45))])
  .ret)
  .skip))
  (.seq (.ops [.o 47 (.ld true 18 (.t 3)), .o 48 (.ld true 15 (.t 4)), .o 49 (.ld true 4 (.t 5)), .o 50 (.call 106 [(.t 47), (.t 48), (.t 49)]), .o 46 (.mv (.t 50)), .o 51 (.ext 0 (.t 46)), .o 52 (.ext 1 (.t 46)), .o 12 (.alloc (.st (.cons (.val (.int .i64 0)) (.cons (.val (.bool false)) (.cons (.val (.int .i64 0)) (.cons (.val (.int .i64 0)) (.cons (.val (.int .i64 0)) (.cons (.val (.int .i64 0)) (.cons (.val (.int .i64 0)) (.cons (.val (.int .i64 0)) (.cons (.val (.int .i64 0)) (.cons (.val (.int .i64 0)) (.cons (.val (.int .i64 0)) (.cons (.val (.int .i64 0)) (.cons (.val (.int .i64 0)) (.cons (.val (.int .i64 0)) (.cons (.val (.int .i64 0)) .nil))))))))))))))))), .n (.sto 15 (.t 12) (.t 51)), .o 13 (.mv (.t 52))])
  (.seq (.ops [.o 53 (.ld true 15 (.t 12)), .o 54 (.mv (.t 13)), .n (.sto 15 (.t 6) (.t 53)), .o 7 (.mv (.t 54)), .o 8 (.mv (.c (.int .i64 0)))])
  .ret))))))))))
theorem hc_r13_Step : compF Tryz.prog 55 Tryz.f88 = some (ic_r13_Step, [.c 6 true 15, .t 7, .t 8]) := by kernel_rfl

theorem fn_r14_acted : Tryz.prog.funcs[r14_acted]? = some Tryz.f89 := Tryz.func89
theorem nt_r14_acted : Tryz.f89.ntmps = 36 := Tryz.ntmps89
def ic_r14_acted : IC := (.seq (.ops [.o 2 (.box (.t 0)), .o 4 (.alloc (.st (.cons (.st (.cons (.val (.int .i64 0)) (.cons (.val (.int .i64 0)) (.cons (.val (.int .i64 0)) (.cons (.val (.int .i64 0)) (.cons (.val (.int .i64 0)) (.cons (.val (.int .i64 0)) (.cons (.val (.int .i64 0)) (.cons (.val (.int .i64 0)) (.cons (.val (.int .i64 0)) (.cons (.val (.int .i64 0)) (.cons (.val (.int .i64 0)) (.cons (.val (.int .i64 0)) (.cons (.val (.int .i64 0)) (.cons (.val (.int .i64 0)) (.cons (.val (.int .i64 0)) (.cons (.val (.int .i64 0)) (.cons (.val (.int .i64 0)) (.cons (.val (.slice none 0 0)) .nil))))))))))))))))))) (.cons (.st (.cons (.val (.int .i64 0)) (.cons (.st (.cons (.val (.int .i64 0)) (.cons (.val (.int .i64 0)) (.cons (.val (.int .i64 0)) (.cons (.val (.int .i64 0)) (.cons (.val (.int .i64 0)) (.cons (.val (.int .i64 0)) .nil))))))) (.cons (.val (.slice none 0 0)) (.cons (.st (.cons (.arr 12 1 fun _ => (.val (.int .i64 0))) .nil)) (.cons (.st (.cons (.val (.int .i64 0)) (.cons (.val (.bool false)) (.cons (.val (.int .i64 0)) (.cons (.val (.int .i64 0)) (.cons (.val (.int .i64 0)) (.cons (.val (.int .i64 0)) (.cons (.val (.int .i64 0)) (.cons (.val (.int .i64 0)) (.cons (.val (.int .i64 0)) (.cons (.val (.int .i64 0)) (.cons (.val (.int .i64 0)) (.cons (.val (.int .i64 0)) (.cons (.val (.int .i64 0)) (.cons (.val (.int .i64 0)) (.cons (.val (.int .i64 0)) .nil)))))))))))))))) (.cons (.val (.int .i64 0)) (.cons (.val (.int .i64 0)) (.cons (.val (.int .i64 0)) (.cons (.st (.cons (.val (.int .i64 0)) (.cons (.val (.int .i64 0)) (.cons (.val (.int .i64 0)) (.cons (.val (.int .i64 0)) (.cons (.val (.int .i64 0)) .nil)))))) (.cons (.val (.bool false)) (.cons (.val (.int .i64 0)) (.cons (.val (.int .i64 0)) .nil))))))))))))) (.cons (.st (.cons (.val (.int .i64 0)) (.cons (.val (.int .i64 0)) (.cons (.val (.int .i64 0)) (.cons (.val (.int .i64 0)) (.cons (.val (.int .i64 0)) .nil)))))) (.cons (.val (.slice none 0 0)) (.cons (.val (.int .i64 0)) .nil)))))))])
  (.seq (.seq (.ops [.o 5 (.mv (.t 1))])
  (.block 0 (.seq (.seq (.ops [.o 7 (.bin .eql (.t 5) (.c (.int .i64 1))), .o 6 (.mv (.t 7))])
  (.cond (.t 6)
  .skip
  (.seq (.ops [.o 8 (.bin .eql (.t 5) (.c (.int .i64 2))), .o 6 (.mv (.t 8))])
  (.cond (.t 6)
  .skip
  (.ops [.o 9 (.bin .eql (.t 5) (.c (.int .i64 3))), .o 6 (.mv (.t 9))])))))
  (.cond (.t 6)
  (.seq (.dops [.o 10 (.ld true 71 (.t 2)), .o 11 (.mv (.t 1)), .o 12 (.fa 1 18 (.t 2)), .o 13 (.ld true 46 (.t 12)), .o 14 (.call 107 [(.t 13)]), .o 15 (.call 73 [(.t 10), (.t 11), (.t 14)]), .n (.sto 71 (.t 4) (.t 15))])
  .ret)
  (.seq (.ops [.o 17 (.bin .eql (.t 5) (.c (.int .i64 4))), .o 16 (.mv (.t 17))])
  (.cond (.t 16)
  (.seq (.ops [.o 18 (.ld true 71 (.t 2)), .o 19 (.call 108 [(.t 18)]), .n (.sto 71 (.t 4) (.t 19))])
  .ret)
  (.seq (.ops [.o 21 (.bin .eql (.t 5) (.c (.int .i64 6))), .o 20 (.mv (.t 21))])
  (.cond (.t 20)
  (.seq (.dops [.o 22 (.ld true 71 (.t 2)), .o 23 (.fa 1 18 (.t 2)), .o 24 (.ld true 46 (.t 23)), .o 25 (.call 74 [(.t 24), (.c (.int .i64 5))]), .o 26 (.call 46 [(.c (.slice none 0 0)), (.c (.int .i64 5)), (.c (.int .i64 7)), (.t 25)]), .o 27 (.call 45 [(.t 22), (.t 26)]), .n (.sto 71 (.t 2) (.t 27))])
  (.seq (.ops [.o 28 (.ld true 71 (.t 2)), .o 29 (.call 73 [(.t 28), (.c (.int .i64 6)), (.c (.int .i64 0))]), .n (.sto 71 (.t 4) (.t 29))])
  .ret))
  (.seq (.ops [.o 31 (.bin .eql (.t 5) (.c (.int .i64 8))), .o 30 (.mv (.t 31))])
  (.cond (.t 30)
  (.seq (.ops [.o 32 (.ld true 71 (.t 2)), .o 33 (.call 72 [(.t 32)]), .o 34 (.call 73 [(.t 33), (.c (.int .i64 8)), (.c (.int .i64 0))]), .n (.sto 71 (.t 4) (.t 34))])
  .ret)
  .skip))))))))))
  (.seq (.ops [.o 35 (.ld true 71 (.t 2)), .n (.sto 71 (.t 4) (.t 35))])
  .ret)))
theorem hc_r14_acted : compF Tryz.prog 36 Tryz.f89 = some (ic_r14_acted, [.c 4 true 71]) := by kernel_rfl

end Go.Proofs.YtjkmmcbfcglkdaaGreat
