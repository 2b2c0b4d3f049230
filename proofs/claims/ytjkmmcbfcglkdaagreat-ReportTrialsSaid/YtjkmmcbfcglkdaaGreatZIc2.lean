/- The given functions as the walk reads them, continued. No condition. -/
import Derived.Test.YtjkmmcbfcglkdaaGreatZIc
set_option linter.all false
namespace Go.Proofs.YtjkmmcbfcglkdaaGreat
open Go Ar
set_option linter.unusedVariables false
set_option maxRecDepth 100000

theorem fn_r10_Days : Tryz.prog.funcs[r10_Days]? = some Tryz.f90 := Tryz.func90
theorem nt_r10_Days : Tryz.f90.ntmps = 23 := Tryz.ntmps90
def ic_r10_Days : IC := (.seq (.ops [.o 4 (.box (.t 1)), .o 6 (.mv (.c (.int .i64 0)))])
  (.seq (.ops [.o 10 (.mv (.t 0)), .o 11 (.ld true 2 (.t 4)), .o 12 (.call 109 [(.t 10), (.t 11)]), .o 9 (.mv (.t 12)), .o 13 (.ext 0 (.t 9)), .o 14 (.ext 1 (.t 9)), .o 7 (.mv (.t 13)), .o 8 (.mv (.t 14))])
  (.seq (.seq (.ops [.o 15 (.mv (.t 8)), .o 16 (.un .not (.t 15))])
  (.cond (.t 16)
  (.seq (.ops [.o 6 (.mv (.c (.int .i64 0)))])
  .ret)
  .skip))
  (.seq (.ops [.o 17 (.mv (.t 0)), .o 18 (.mv (.t 7)), .o 19 (.ixs 4 (.t 17) (.t 18)), .o 20 (.ld true 4 (.t 19)), .o 21 (.mv (.t 2)), .o 22 (.call 110 [(.t 20), (.t 21)]), .o 6 (.mv (.t 22))])
  .ret))))
theorem hc_r10_Days : compF Tryz.prog 23 Tryz.f90 = some (ic_r10_Days, [.t 6]) := by kernel_rfl

theorem fn_r14_Position : Tryz.prog.funcs[r14_Position]? = some Tryz.f91 := Tryz.func91
theorem nt_r14_Position : Tryz.f91.ntmps = 11 := Tryz.ntmps91
def ic_r14_Position : IC := (.seq (.ops [.o 1 (.box (.t 0)), .o 2 (.alloc (.st (.cons (.val (.int .i64 0)) (.cons (.val (.int .i64 0)) .nil))))])
  (.seq (.dops [.o 3 (.fa 7 37 (.t 1)), .o 4 (.ld false 1 (.t 3)), .o 5 (.ld true 46 (.t 1)), .o 6 (.call 74 [(.t 5), (.c (.int .i64 2))]), .o 7 (.ld true 46 (.t 1)), .o 8 (.call 74 [(.t 7), (.c (.int .i64 1))]), .o 9 (.bin .add (.t 6) (.t 8)), .o 10 (.build (.st (.cons (.val (.int .i64 0)) (.cons (.val (.int .i64 0)) .nil))) [(0, 0, 1, (.t 4)), (1, 1, 1, (.t 9))]), .n (.sto 2 (.t 2) (.t 10))])
  .ret))
theorem hc_r14_Position : compF Tryz.prog 11 Tryz.f91 = some (ic_r14_Position, [.c 2 true 2]) := by kernel_rfl

theorem fn_r13_Open : Tryz.prog.funcs[r13_Open]? = some Tryz.f92 := Tryz.func92
theorem nt_r13_Open : Tryz.f92.ntmps = 16 := Tryz.ntmps92
def ic_r13_Open : IC := (.seq (.ops [.o 1 (.box (.t 0)), .o 2 (.mv (.c (.bool false)))])
  (.seq (.ops [.o 3 (.fa 0 0 (.t 1)), .o 4 (.ld false 1 (.t 3)), .o 5 (.bin .eql (.t 4) (.c (.int .i64 3))), .o 6 (.mv (.t 5)), .og 7 6 false (.fa 0 0 (.t 1)), .og 8 6 false (.ld false 1 (.t 7)), .og 9 6 false (.bin .eql (.t 8) (.c (.int .i64 4))), .o 10 (.pick (.t 6) (.c (.bool true)) (.t 9)), .o 11 (.mv (.t 10)), .og 12 11 false (.fa 0 0 (.t 1)), .og 13 11 false (.ld false 1 (.t 12)), .og 14 11 false (.bin .eql (.t 13) (.c (.int .i64 5))), .o 15 (.pick (.t 11) (.c (.bool true)) (.t 14)), .o 2 (.mv (.t 15))])
  .ret))
theorem hc_r13_Open : compF Tryz.prog 16 Tryz.f92 = some (ic_r13_Open, [.t 2]) := by kernel_rfl

theorem fn_r10_Missed : Tryz.prog.funcs[r10_Missed]? = some Tryz.f93 := Tryz.func93
theorem nt_r10_Missed : Tryz.f93.ntmps = 46 := Tryz.ntmps93
def ic_r10_Missed : IC := (.seq (.ops [.o 5 (.box (.t 1)), .o 8 (.mv (.c (.slice none 0 0)))])
  (.seq (.ops [.o 12 (.mv (.t 0)), .o 13 (.call 111 [(.t 12)]), .o 9 (.mv (.t 13))])
  (.seq (.seq (.ops [.o 14 (.mv (.t 3)), .o 15 (.bin .lss (.t 14) (.c (.int .i64 0)))])
  (.cond (.t 15)
  (.ops [.o 3 (.mv (.c (.int .i64 0)))])
  .skip))
  (.seq (.ops [.o 10 (.mv (.c (.slice none 0 0)))])
  (.seq (.seq (.ops [.o 16 (.mv (.t 9)), .o 17 (.ld true 2 (.t 5)), .o 18 (.call 112 [(.t 16), (.t 17)]), .o 11 (.mv (.t 18))])
  (.block 0 (.loop (.seq (.seq (.ops [.o 19 (.mv (.t 11)), .o 20 (.mv (.t 9)), .o 21 (.len (.t 20)), .o 22 (.bin .lss (.t 19) (.t 21))])
  (.cond (.t 22)
  .skip
  (.exit 0)))
  (.seq (.block 1 (.seq (.ops [.o 25 (.mv (.t 9)), .o 26 (.mv (.t 11)), .o 27 (.ixs 4 (.t 25) (.t 26)), .o 28 (.fa 3 3 (.t 27)), .o 29 (.ld false 1 (.t 28)), .o 30 (.un .not (.t 29)), .o 31 (.mv (.t 30)), .og 32 31 true (.mv (.t 9)), .og 33 31 true (.mv (.t 11)), .og 34 31 true (.ixs 4 (.t 32) (.t 33)), .og 35 31 true (.ld true 4 (.t 34)), .og 36 31 true (.mv (.t 2)), .og 37 31 true (.call 110 [(.t 35), (.t 36)]), .og 38 31 true (.mv (.t 3)), .og 39 31 true (.bin .gtr (.t 37) (.t 38)), .o 40 (.pick (.t 31) (.t 39) (.c (.bool false)))])
  (.cond (.t 40)
  (.ops [.o 41 (.mv (.t 10)), .o 42 (.mv (.t 11)), .o 43 (.bsl 1 3 (.val (.int .i64 0)) [(0, 0, 1, (.t 42))]), .o 44 (.app 1 8 3 (.t 41) (.t 43)), .o 10 (.mv (.t 44))])
  .skip)))
  (.ops [.o 23 (.mv (.t 11)), .o 24 (.bin .add (.t 23) (.c (.int .i64 1))), .o 11 (.mv (.t 24))]))))))
  (.seq (.ops [.o 45 (.mv (.t 10)), .o 8 (.mv (.t 45))])
  .ret))))))
theorem hc_r10_Missed : compF Tryz.prog 46 Tryz.f93 = some (ic_r10_Missed, [.t 8]) := by kernel_rfl

theorem fn_r12_Assess : Tryz.prog.funcs[r12_Assess]? = some Tryz.f94 := Tryz.func94
theorem nt_r12_Assess : Tryz.f94.ntmps = 37 := Tryz.ntmps94
def ic_r12_Assess : IC := (.seq (.ops [.o 4 (.box (.t 0)), .o 8 (.mv (.c (.int .i64 0)))])
  (.seq (.seq (.ops [.o 10 (.ld true 18 (.t 4)), .o 11 (.call 113 [(.t 10)]), .o 12 (.un .not (.t 11))])
  (.cond (.t 12)
  (.seq (.ops [.o 8 (.mv (.c (.int .i64 0)))])
  .ret)
  .skip))
  (.seq (.ops [.o 13 (.ld true 18 (.t 4)), .o 14 (.mv (.t 1)), .o 15 (.call 114 [(.t 13), (.t 14)]), .o 9 (.mv (.t 15))])
  (.seq (.seq (.ops [.o 16 (.fa 7 7 (.t 4)), .o 17 (.ld false 1 (.t 16)), .o 18 (.mv (.t 2)), .o 19 (.call 115 [(.t 17), (.t 18)]), .o 20 (.mv (.t 9)), .o 21 (.bin .lss (.t 19) (.t 20))])
  (.cond (.t 21)
  (.ops [.o 22 (.fa 7 7 (.t 4)), .o 23 (.ld false 1 (.t 22)), .o 24 (.mv (.t 2)), .o 25 (.call 115 [(.t 23), (.t 24)]), .o 9 (.mv (.t 25))])
  .skip))
  (.seq (.seq (.ops [.o 26 (.fa 8 8 (.t 4)), .o 27 (.ld false 1 (.t 26)), .o 28 (.mv (.t 3)), .o 29 (.call 115 [(.t 27), (.t 28)]), .o 30 (.mv (.t 9)), .o 31 (.bin .lss (.t 29) (.t 30))])
  (.cond (.t 31)
  (.ops [.o 32 (.fa 8 8 (.t 4)), .o 33 (.ld false 1 (.t 32)), .o 34 (.mv (.t 3)), .o 35 (.call 115 [(.t 33), (.t 34)]), .o 9 (.mv (.t 35))])
  .skip))
  (.seq (.ops [.o 36 (.mv (.t 9)), .o 8 (.mv (.t 36))])
  .ret))))))
theorem hc_r12_Assess : compF Tryz.prog 37 Tryz.f94 = some (ic_r12_Assess, [.t 8]) := by kernel_rfl

theorem fn_r10_Mark : Tryz.prog.funcs[r10_Mark]? = some Tryz.f95 := Tryz.func95
theorem nt_r10_Mark : Tryz.f95.ntmps = 37 := Tryz.ntmps95
def ic_r10_Mark : IC := (.seq (.ops [.o 4 (.mv (.c (.slice none 0 0)))])
  (.seq (.ops [.o 5 (.mv (.c (.slice none 0 0)))])
  (.seq (.seq (.ops [.o 6 (.mv (.c (.int .i64 0)))])
  (.block 0 (.loop (.seq (.seq (.ops [.o 9 (.mv (.t 6)), .o 10 (.mv (.t 0)), .o 11 (.len (.t 10)), .o 12 (.bin .lss (.t 9) (.t 11))])
  (.cond (.t 12)
  .skip
  (.exit 0)))
  (.seq (.block 1 (.seq (.ops [.o 15 (.mv (.t 0)), .o 16 (.mv (.t 6)), .o 17 (.ixs 4 (.t 15) (.t 16)), .o 18 (.ld true 4 (.t 17)), .o 7 (.alloc (.st (.cons (.val (.int .i64 0)) (.cons (.val (.int .i64 0)) (.cons (.val (.int .i64 0)) (.cons (.val (.bool false)) .nil)))))), .n (.sto 4 (.t 7) (.t 18))])
  (.seq (.seq (.ops [.o 8 (.mv (.c (.int .i64 0)))])
  (.block 2 (.loop (.seq (.seq (.ops [.o 19 (.mv (.t 8)), .o 20 (.mv (.t 1)), .o 21 (.len (.t 20)), .o 22 (.bin .lss (.t 19) (.t 21))])
  (.cond (.t 22)
  .skip
  (.exit 2)))
  (.seq (.block 3 (.seq (.ops [.o 25 (.mv (.t 1)), .o 26 (.mv (.t 8)), .o 27 (.ixs 1 (.t 25) (.t 26)), .o 28 (.ld false 1 (.t 27)), .o 29 (.mv (.t 6)), .o 30 (.bin .eql (.t 28) (.t 29))])
  (.cond (.t 30)
  (.ops [.o 31 (.fa 3 3 (.t 7)), .n (.sto 1 (.t 31) (.c (.bool true)))])
  .skip)))
  (.ops [.o 23 (.mv (.t 8)), .o 24 (.bin .add (.t 23) (.c (.int .i64 1))), .o 8 (.mv (.t 24))]))))))
  (.ops [.o 32 (.mv (.t 5)), .o 33 (.ld true 4 (.t 7)), .o 34 (.bsl 4 64 (.st (.cons (.val (.int .i64 0)) (.cons (.val (.int .i64 0)) (.cons (.val (.int .i64 0)) (.cons (.val (.bool false)) .nil))))) [(0, 0, 4, (.t 33))]), .o 35 (.app 4 32 64 (.t 32) (.t 34)), .o 5 (.mv (.t 35))]))))
  (.ops [.o 13 (.mv (.t 6)), .o 14 (.bin .add (.t 13) (.c (.int .i64 1))), .o 6 (.mv (.t 14))]))))))
  (.seq (.ops [.o 36 (.mv (.t 5)), .o 4 (.mv (.t 36))])
  .ret))))
theorem hc_r10_Mark : compF Tryz.prog 37 Tryz.f95 = some (ic_r10_Mark, [.t 4]) := by kernel_rfl

theorem fn_r9_Recover : Tryz.prog.funcs[r9_Recover]? = some Tryz.f96 := Tryz.func96
theorem nt_r9_Recover : Tryz.f96.ntmps = 25 := Tryz.ntmps96
def ic_r9_Recover : IC := (.seq (.ops [.o 4 (.alloc (.st (.cons (.val (.int .i64 0)) (.cons (.val (.int .i64 0)) (.cons (.val (.int .i64 0)) (.cons (.val (.int .i64 0)) (.cons (.val (.int .i64 0)) .nil))))))), .o 5 (.mv (.c (.int .i64 0)))])
  (.seq (.ops [.o 6 (.alloc (.st (.cons (.val (.int .i64 0)) (.cons (.val (.int .i64 0)) (.cons (.val (.int .i64 0)) (.cons (.val (.int .i64 0)) (.cons (.val (.int .i64 0)) .nil)))))))])
  (.seq (.seq (.ops [.o 7 (.mv (.t 0)), .o 8 (.bin .lss (.t 7) (.c (.int .i64 0)))])
  (.cond (.t 8)
  (.seq (.ops [.o 9 (.ld true 5 (.t 6)), .n (.sto 5 (.t 4) (.t 9)), .o 5 (.mv (.c (.int .i64 2)))])
  .ret)
  .skip))
  (.seq (.seq (.ops [.o 10 (.mv (.t 1)), .o 11 (.bin .lss (.t 10) (.c (.int .i64 1)))])
  (.cond (.t 11)
  (.seq (.ops [.o 12 (.ld true 5 (.t 6)), .n (.sto 5 (.t 4) (.t 12)), .o 5 (.mv (.c (.int .i64 4)))])
  .ret)
  .skip))
  (.seq (.seq (.ops [.o 13 (.mv (.t 1)), .o 14 (.mv (.t 0)), .o 15 (.bin .gtr (.t 13) (.t 14))])
  (.cond (.t 15)
  (.seq (.ops [.o 16 (.mv (.t 0)), .o 17 (.fa 4 4 (.t 6)), .n (.sto 1 (.t 17) (.t 16))])
  (.ops [.o 18 (.mv (.t 1)), .o 19 (.mv (.t 0)), .o 20 (.bin .sub (.t 18) (.t 19)), .o 21 (.fa 3 3 (.t 6)), .n (.sto 1 (.t 21) (.t 20))]))
  (.ops [.o 22 (.mv (.t 1)), .o 23 (.fa 4 4 (.t 6)), .n (.sto 1 (.t 23) (.t 22))])))
  (.seq (.ops [.o 24 (.ld true 5 (.t 6)), .n (.sto 5 (.t 4) (.t 24)), .o 5 (.mv (.c (.int .i64 0)))])
  .ret))))))
theorem hc_r9_Recover : compF Tryz.prog 25 Tryz.f96 = some (ic_r9_Recover, [.c 4 true 5, .t 5]) := by kernel_rfl

theorem fn_r9_Allocate : Tryz.prog.funcs[r9_Allocate]? = some Tryz.f97 := Tryz.func97
theorem nt_r9_Allocate : Tryz.f97.ntmps = 61 := Tryz.ntmps97
def ic_r9_Allocate : IC := (.seq (.ops [.o 4 (.box (.t 1)), .o 6 (.alloc (.st (.cons (.val (.int .i64 0)) (.cons (.val (.int .i64 0)) (.cons (.val (.int .i64 0)) (.cons (.val (.int .i64 0)) (.cons (.val (.int .i64 0)) .nil))))))), .o 7 (.mv (.c (.int .i64 0)))])
  (.seq (.ops [.o 8 (.alloc (.st (.cons (.val (.int .i64 0)) (.cons (.val (.int .i64 0)) (.cons (.val (.int .i64 0)) (.cons (.val (.int .i64 0)) (.cons (.val (.int .i64 0)) .nil)))))))])
  (.seq (.seq (.ops [.o 11 (.mv (.t 0)), .o 12 (.call 116 [(.t 11), (.c (.int .i64 0))]), .o 13 (.bin .lss (.t 12) (.c (.int .i64 0))), .o 14 (.mv (.t 13)), .og 15 14 false (.fa 0 0 (.t 4)), .og 16 14 false (.ld false 1 (.t 15)), .og 17 14 false (.bin .lss (.t 16) (.c (.int .i64 0))), .o 18 (.pick (.t 14) (.c (.bool true)) (.t 17)), .o 19 (.mv (.t 18)), .og 20 19 false (.fa 1 1 (.t 4)), .og 21 19 false (.ld false 1 (.t 20)), .og 22 19 false (.bin .lss (.t 21) (.c (.int .i64 0))), .o 23 (.pick (.t 19) (.c (.bool true)) (.t 22)), .o 24 (.mv (.t 23)), .og 25 24 false (.fa 2 2 (.t 4)), .og 26 24 false (.ld false 1 (.t 25)), .og 27 24 false (.bin .lss (.t 26) (.c (.int .i64 0))), .o 28 (.pick (.t 24) (.c (.bool true)) (.t 27))])
  (.cond (.t 28)
  (.seq (.ops [.o 29 (.ld true 5 (.t 8)), .n (.sto 5 (.t 6) (.t 29)), .o 7 (.mv (.c (.int .i64 2)))])
  .ret)
  .skip))
  (.seq (.seq (.ops [.o 30 (.mv (.t 2)), .o 31 (.bin .lss (.t 30) (.c (.int .i64 1)))])
  (.cond (.t 31)
  (.seq (.ops [.o 32 (.ld true 5 (.t 8)), .n (.sto 5 (.t 6) (.t 32)), .o 7 (.mv (.c (.int .i64 4)))])
  .ret)
  .skip))
  (.seq (.seq (.ops [.o 9 (.mv (.c (.int .i64 0)))])
  (.block 0 (.loop (.seq (.seq (.ops [.o 33 (.mv (.t 9)), .o 34 (.bin .lss (.t 33) (.c (.int .i64 3)))])
  (.cond (.t 34)
  .skip
  (.exit 0)))
  (.seq (.block 1 (.seq (.ops [.o 37 (.mv (.t 0)), .o 38 (.ld true 3 (.t 4)), .o 39 (.mv (.t 2)), .o 40 (.mv (.t 9)), .o 41 (.call 117 [(.t 37), (.t 38), (.t 39), (.t 40)]), .o 10 (.mv (.t 41))])
  (.seq (.ops [.o 42 (.mv (.t 0)), .o 43 (.mv (.t 9)), .o 44 (.call 116 [(.t 42), (.t 43)])])
  (.block 2 (.seq (.ops [.o 48 (.bin .eql (.t 44) (.c (.int .i64 3))), .o 47 (.mv (.t 48))])
  (.cond (.t 47)
  (.ops [.o 49 (.mv (.t 10)), .o 50 (.fa 0 0 (.t 8)), .n (.sto 1 (.t 50) (.t 49))])
  (.seq (.ops [.o 52 (.bin .eql (.t 44) (.c (.int .i64 2))), .o 51 (.mv (.t 52))])
  (.cond (.t 51)
  (.ops [.o 53 (.mv (.t 10)), .o 54 (.fa 1 1 (.t 8)), .n (.sto 1 (.t 54) (.t 53))])
  (.ops [.o 45 (.mv (.t 10)), .o 46 (.fa 2 2 (.t 8)), .n (.sto 1 (.t 46) (.t 45))])))))))))
  (.ops [.o 35 (.mv (.t 9)), .o 36 (.bin .add (.t 35) (.c (.int .i64 1))), .o 9 (.mv (.t 36))]))))))
  (.seq (.ops [.o 55 (.mv (.t 0)), .o 56 (.ld true 3 (.t 4)), .o 57 (.mv (.t 2)), .o 58 (.call 117 [(.t 55), (.t 56), (.t 57), (.c (.int .i64 3))]), .o 59 (.fa 3 3 (.t 8)), .n (.sto 1 (.t 59) (.t 58))])
  (.seq (.ops [.o 60 (.ld true 5 (.t 8)), .n (.sto 5 (.t 6) (.t 60)), .o 7 (.mv (.c (.int .i64 0)))])
  .ret)))))))
theorem hc_r9_Allocate : compF Tryz.prog 61 Tryz.f97 = some (ic_r9_Allocate, [.c 6 true 5, .t 7]) := by kernel_rfl

theorem fn_r9_moves : Tryz.prog.funcs[r9_moves]? = some Tryz.f98 := Tryz.func98
theorem nt_r9_moves : Tryz.f98.ntmps = 31 := Tryz.ntmps98
def ic_r9_moves : IC := (.seq (.ops [.o 2 (.box (.t 0)), .o 4 (.mv (.c (.slice none 0 0)))])
  (.seq (.ops [.o 5 (.mv (.c (.slice none 0 0)))])
  (.seq (.ops [.o 6 (.mv (.t 5)), .o 7 (.fa 0 0 (.t 2)), .o 8 (.ld false 1 (.t 7)), .o 9 (.mv (.t 1)), .o 10 (.call 118 [(.t 6), (.c (.int .i64 3)), (.t 8), (.t 9)]), .o 5 (.mv (.t 10))])
  (.seq (.ops [.o 11 (.mv (.t 5)), .o 12 (.fa 1 1 (.t 2)), .o 13 (.ld false 1 (.t 12)), .o 14 (.mv (.t 1)), .o 15 (.call 118 [(.t 11), (.c (.int .i64 2)), (.t 13), (.t 14)]), .o 5 (.mv (.t 15))])
  (.seq (.ops [.o 16 (.mv (.t 5)), .o 17 (.fa 2 2 (.t 2)), .o 18 (.ld false 1 (.t 17)), .o 19 (.mv (.t 1)), .o 20 (.call 118 [(.t 16), (.c (.int .i64 1)), (.t 18), (.t 19)]), .o 5 (.mv (.t 20))])
  (.seq (.ops [.o 21 (.mv (.t 5)), .o 22 (.fa 3 3 (.t 2)), .o 23 (.ld false 1 (.t 22)), .o 24 (.mv (.t 1)), .o 25 (.call 118 [(.t 21), (.c (.int .i64 4)), (.t 23), (.t 24)]), .o 5 (.mv (.t 25))])
  (.seq (.ops [.o 26 (.mv (.t 5)), .o 27 (.fa 4 4 (.t 2)), .o 28 (.ld false 1 (.t 27)), .o 29 (.mv (.t 1)), .o 30 (.call 118 [(.t 26), (.c (.int .i64 10)), (.t 28), (.t 29)]), .o 4 (.mv (.t 30))])
  .ret)))))))
theorem hc_r9_moves : compF Tryz.prog 31 Tryz.f98 = some (ic_r9_moves, [.t 4]) := by kernel_rfl

theorem fn_r2_isDay : Tryz.prog.funcs[r2_isDay]? = some Tryz.f99 := Tryz.func99
theorem nt_r2_isDay : Tryz.f99.ntmps = 9 := Tryz.ntmps99
def ic_r2_isDay : IC := (.seq (.ops [.o 2 (.mv (.c (.bool false)))])
  (.seq (.ops [.o 3 (.mv (.t 0)), .o 4 (.bin .geq (.t 3) (.c (.int .i64 1))), .o 5 (.mv (.t 4)), .og 6 5 true (.mv (.t 0)), .og 7 5 true (.bin .leq (.t 6) (.c (.int .i64 3652059))), .o 8 (.pick (.t 5) (.t 7) (.c (.bool false))), .o 2 (.mv (.t 8))])
  .ret))
theorem hc_r2_isDay : compF Tryz.prog 9 Tryz.f99 = some (ic_r2_isDay, [.t 2]) := by kernel_rfl

theorem fn_r2_yearLen : Tryz.prog.funcs[r2_yearLen]? = some Tryz.f100 := Tryz.func100
theorem nt_r2_yearLen : Tryz.f100.ntmps = 5 := Tryz.ntmps100
def ic_r2_yearLen : IC := (.seq (.ops [.o 2 (.mv (.c (.int .i64 0)))])
  (.seq (.seq (.ops [.o 3 (.mv (.t 0)), .o 4 (.call 119 [(.t 3)])])
  (.cond (.t 4)
  (.seq (.ops [.o 2 (.mv (.c (.int .i64 366)))])
  .ret)
  .skip))
  (.seq (.ops [.o 2 (.mv (.c (.int .i64 365)))])
  .ret)))
theorem hc_r2_yearLen : compF Tryz.prog 5 Tryz.f100 = some (ic_r2_yearLen, [.t 2]) := by kernel_rfl

theorem fn_r2_lenOf : Tryz.prog.funcs[r2_lenOf]? = some Tryz.f101 := Tryz.func101
theorem nt_r2_lenOf : Tryz.f101.ntmps = 15 := Tryz.ntmps101
def ic_r2_lenOf : IC := (.seq (.ops [.o 4 (.mv (.c (.int .i64 0)))])
  (.seq (.seq (.ops [.o 5 (.mv (.t 1))])
  (.block 0 (.seq (.ops [.o 7 (.bin .eql (.t 5) (.c (.int .i64 2))), .o 6 (.mv (.t 7))])
  (.cond (.t 6)
  (.seq (.seq (.ops [.o 8 (.mv (.t 0)), .o 9 (.call 119 [(.t 8)])])
  (.cond (.t 9)
  (.seq (.ops [.o 4 (.mv (.c (.int .i64 29)))])
  .ret)
  .skip))
  (.seq (.ops [.o 4 (.mv (.c (.int .i64 28)))])
  .ret))
  (.seq (.seq (.ops [.o 11 (.bin .eql (.t 5) (.c (.int .i64 4))), .o 10 (.mv (.t 11))])
  (.cond (.t 10)
  .skip
  (.seq (.ops [.o 12 (.bin .eql (.t 5) (.c (.int .i64 6))), .o 10 (.mv (.t 12))])
  (.cond (.t 10)
  .skip
  (.seq (.ops [.o 13 (.bin .eql (.t 5) (.c (.int .i64 9))), .o 10 (.mv (.t 13))])
  (.cond (.t 10)
  .skip
  (.ops [.o 14 (.bin .eql (.t 5) (.c (.int .i64 11))), .o 10 (.mv (.t 14))])))))))
  (.cond (.t 10)
  (.seq (.ops [.o 4 (.mv (.c (.int .i64 30)))])
  .ret)
  .skip))))))
  (.seq (.ops [.o 4 (.mv (.c (.int .i64 31)))])
  .ret)))
theorem hc_r2_lenOf : compF Tryz.prog 15 Tryz.f101 = some (ic_r2_lenOf, [.t 4]) := by kernel_rfl

theorem fn_r2_Number : Tryz.prog.funcs[r2_Number]? = some Tryz.f102 := Tryz.func102
theorem nt_r2_Number : Tryz.f102.ntmps = 56 := Tryz.ntmps102
def ic_r2_Number : IC := (.seq (.ops [.o 1 (.box (.t 0)), .o 2 (.mv (.c (.int .i64 0))), .o 3 (.mv (.c (.bool false)))])
  (.seq (.seq (.dops [.o 8 (.fa 2 2 (.t 1)), .o 9 (.ld false 1 (.t 8)), .o 10 (.bin .lss (.t 9) (.c (.int .i64 1))), .o 11 (.mv (.t 10)), .og 12 11 false (.fa 2 2 (.t 1)), .og 13 11 false (.ld false 1 (.t 12)), .og 14 11 false (.fa 0 0 (.t 1)), .og 15 11 false (.ld false 1 (.t 14)), .og 16 11 false (.fa 1 1 (.t 1)), .og 17 11 false (.ld false 1 (.t 16)), .og 18 11 false (.call 120 [(.t 15), (.t 17)]), .og 19 11 false (.bin .gtr (.t 13) (.t 18)), .o 20 (.pick (.t 11) (.c (.bool true)) (.t 19))])
  (.cond (.t 20)
  (.seq (.ops [.o 2 (.mv (.c (.int .i64 0))), .o 3 (.mv (.c (.bool false)))])
  .ret)
  .skip))
  (.seq (.ops [.o 21 (.fa 0 0 (.t 1)), .o 22 (.ld false 1 (.t 21)), .o 23 (.bin .sub (.t 22) (.c (.int .i64 1))), .o 24 (.bin .quo (.t 23) (.c (.int .i64 400))), .o 4 (.mv (.t 24))])
  (.seq (.ops [.o 25 (.mv (.t 4)), .o 26 (.bin .mul (.t 25) (.c (.int .i64 146097))), .o 5 (.mv (.t 26))])
  (.seq (.seq (.ops [.o 27 (.mv (.t 4)), .o 28 (.bin .mul (.c (.int .i64 400)) (.t 27)), .o 29 (.bin .add (.t 28) (.c (.int .i64 1))), .o 6 (.mv (.t 29))])
  (.block 0 (.loop (.seq (.seq (.ops [.o 30 (.mv (.t 6)), .o 31 (.fa 0 0 (.t 1)), .o 32 (.ld false 1 (.t 31)), .o 33 (.bin .lss (.t 30) (.t 32))])
  (.cond (.t 33)
  .skip
  (.exit 0)))
  (.seq (.block 1 (.ops [.o 36 (.mv (.t 5)), .o 37 (.mv (.t 6)), .o 38 (.call 100 [(.t 37)]), .o 39 (.bin .add (.t 36) (.t 38)), .o 5 (.mv (.t 39))]))
  (.ops [.o 34 (.mv (.t 6)), .o 35 (.bin .add (.t 34) (.c (.int .i64 1))), .o 6 (.mv (.t 35))]))))))
  (.seq (.seq (.ops [.o 7 (.mv (.c (.int .i64 1)))])
  (.block 2 (.loop (.seq (.seq (.ops [.o 40 (.mv (.t 7)), .o 41 (.fa 1 1 (.t 1)), .o 42 (.ld false 1 (.t 41)), .o 43 (.bin .lss (.t 40) (.t 42))])
  (.cond (.t 43)
  .skip
  (.exit 2)))
  (.seq (.block 3 (.ops [.o 46 (.mv (.t 5)), .o 47 (.fa 0 0 (.t 1)), .o 48 (.ld false 1 (.t 47)), .o 49 (.mv (.t 7)), .o 50 (.call 101 [(.t 48), (.t 49)]), .o 51 (.bin .add (.t 46) (.t 50)), .o 5 (.mv (.t 51))]))
  (.ops [.o 44 (.mv (.t 7)), .o 45 (.bin .add (.t 44) (.c (.int .i64 1))), .o 7 (.mv (.t 45))]))))))
  (.seq (.ops [.o 52 (.mv (.t 5)), .o 53 (.fa 2 2 (.t 1)), .o 54 (.ld false 1 (.t 53)), .o 55 (.bin .add (.t 52) (.t 54)), .o 2 (.mv (.t 55)), .o 3 (.mv (.c (.bool true)))])
  .ret)))))))
theorem hc_r2_Number : compF Tryz.prog 56 Tryz.f102 = some (ic_r2_Number, [.t 2, .t 3]) := by kernel_rfl

theorem fn_r2_sought : Tryz.prog.funcs[r2_sought]? = some Tryz.f103 := Tryz.func103
theorem nt_r2_sought : Tryz.f103.ntmps = 25 := Tryz.ntmps103
def ic_r2_sought : IC := (.seq (.ops [.o 6 (.mv (.c (.int .i64 0))), .o 7 (.mv (.c (.bool false)))])
  (.seq (.seq (.ops [.o 8 (.mv (.c (.int .i64 0)))])
  (.block 0 (.loop (.seq (.seq (.ops [.o 9 (.mv (.t 8)), .o 10 (.bin .leq (.t 9) (.c (.int .i64 10)))])
  (.cond (.t 10)
  .skip
  (.exit 0)))
  (.seq (.block 1 (.seq (.ops [.o 13 (.mv (.t 0)), .o 14 (.mv (.t 8)), .o 15 (.mv (.t 2)), .o 16 (.bin .mul (.t 14) (.t 15)), .o 17 (.bin .add (.t 13) (.t 16)), .o 18 (.mv (.t 1)), .o 19 (.call 121 [(.t 17), (.t 18)])])
  (.cond (.t 19)
  (.seq (.ops [.o 20 (.mv (.t 0)), .o 21 (.mv (.t 8)), .o 22 (.mv (.t 2)), .o 23 (.bin .mul (.t 21) (.t 22)), .o 24 (.bin .add (.t 20) (.t 23)), .o 6 (.mv (.t 24)), .o 7 (.mv (.c (.bool true)))])
  .ret)
  .skip)))
  (.ops [.o 11 (.mv (.t 8)), .o 12 (.bin .add (.t 11) (.c (.int .i64 1))), .o 8 (.mv (.t 12))]))))))
  (.seq (.ops [.o 6 (.mv (.c (.int .i64 0))), .o 7 (.mv (.c (.bool false)))])
  .ret)))
theorem hc_r2_sought : compF Tryz.prog 25 Tryz.f103 = some (ic_r2_sought, [.t 6, .t 7]) := by kernel_rfl

theorem fn_r13_numbers : Tryz.prog.funcs[r13_numbers]? = some Tryz.f104 := Tryz.func104
theorem nt_r13_numbers : Tryz.f104.ntmps = 58 := Tryz.ntmps104
def ic_r13_numbers : IC := (.seq (.ops [.o 2 (.box (.t 0)), .o 3 (.box (.t 1)), .o 4 (.mv (.c (.int .i64 0)))])
  (.seq (.ops [.o 6 (.fa 1 1 (.t 3)), .o 7 (.ld false 1 (.t 6)), .o 8 (.bin .geq (.t 7) (.c (.int .i64 1))), .o 9 (.mv (.t 8)), .og 10 9 true (.fa 1 1 (.t 3)), .og 11 9 true (.ld false 1 (.t 10)), .og 12 9 true (.bin .leq (.t 11) (.c (.int .i64 3652059))), .o 13 (.pick (.t 9) (.t 12) (.c (.bool false))), .o 5 (.mv (.t 13))])
  (.seq (.seq (.ops [.o 14 (.fa 0 0 (.t 3)), .o 15 (.ld false 1 (.t 14))])
  (.block 0 (.seq (.ops [.o 17 (.bin .eql (.t 15) (.c (.int .i64 1))), .o 16 (.mv (.t 17))])
  (.cond (.t 16)
  (.seq (.ops [.o 18 (.mv (.t 5)), .o 19 (.un .not (.t 18)), .o 20 (.mv (.t 19)), .og 21 20 false (.fa 2 2 (.t 3)), .og 22 20 false (.ld false 1 (.t 21)), .og 23 20 false (.bin .lss (.t 22) (.c (.int .i64 0))), .o 24 (.pick (.t 20) (.c (.bool true)) (.t 23))])
  (.cond (.t 24)
  (.seq (.ops [.o 4 (.mv (.c (.int .i64 2)))])
  .ret)
  .skip))
  (.seq (.ops [.o 26 (.bin .eql (.t 15) (.c (.int .i64 2))), .o 25 (.mv (.t 26))])
  (.cond (.t 25)
  (.seq (.seq (.ops [.o 27 (.fa 3 3 (.t 3)), .o 28 (.ld false 1 (.t 27)), .o 29 (.bin .lss (.t 28) (.c (.int .i64 1)))])
  (.cond (.t 29)
  (.seq (.ops [.o 4 (.mv (.c (.int .i64 4)))])
  .ret)
  .skip))
  (.seq (.ops [.o 30 (.fa 2 2 (.t 3)), .o 31 (.ld false 1 (.t 30)), .o 32 (.bin .lss (.t 31) (.c (.int .i64 0)))])
  (.cond (.t 32)
  (.seq (.ops [.o 4 (.mv (.c (.int .i64 2)))])
  .ret)
  .skip)))
  (.seq (.seq (.ops [.o 34 (.bin .eql (.t 15) (.c (.int .i64 3))), .o 33 (.mv (.t 34))])
  (.cond (.t 33)
  .skip
  (.ops [.o 35 (.bin .eql (.t 15) (.c (.int .i64 6))), .o 33 (.mv (.t 35))])))
  (.cond (.t 33)
  (.seq (.ops [.o 36 (.fa 3 3 (.t 3)), .o 37 (.ld false 1 (.t 36)), .o 38 (.bin .lss (.t 37) (.c (.int .i64 1)))])
  (.cond (.t 38)
  (.seq (.ops [.o 4 (.mv (.c (.int .i64 4)))])
  .ret)
  .skip))
  (.seq (.ops [.o 40 (.bin .eql (.t 15) (.c (.int .i64 4))), .o 39 (.mv (.t 40))])
  (.cond (.t 39)
  (.seq (.seq (.ops [.o 41 (.mv (.t 5)), .o 42 (.un .not (.t 41)), .o 43 (.mv (.t 42)), .og 44 43 false (.fa 2 2 (.t 3)), .og 45 43 false (.ld false 1 (.t 44)), .og 46 43 false (.bin .lss (.t 45) (.c (.int .i64 1))), .o 47 (.pick (.t 43) (.c (.bool true)) (.t 46)), .o 48 (.mv (.t 47)), .og 49 48 false (.fa 2 2 (.t 3)), .og 50 48 false (.ld false 1 (.t 49)), .og 51 48 false (.fa 10 10 (.t 2)), .og 52 48 false (.ld false 1 (.t 51)), .og 53 48 false (.bin .gtr (.t 50) (.t 52)), .o 54 (.pick (.t 48) (.c (.bool true)) (.t 53))])
  (.cond (.t 54)
  (.seq (.ops [.o 4 (.mv (.c (.int .i64 2)))])
  .ret)
  .skip))
  (.seq (.ops [.o 55 (.fa 3 3 (.t 3)), .o 56 (.ld false 1 (.t 55)), .o 57 (.bin .lss (.t 56) (.c (.int .i64 1)))])
  (.cond (.t 57)
  (.seq (.ops [.o 4 (.mv (.c (.int .i64 4)))])
  .ret)
  .skip)))
  .skip))))))))))
  (.seq (.ops [.o 4 (.mv (.c (.int .i64 0)))])
  .ret))))
theorem hc_r13_numbers : compF Tryz.prog 58 Tryz.f104 = some (ic_r13_numbers, [.t 4]) := by kernel_rfl

theorem fn_r13_standing : Tryz.prog.funcs[r13_standing]? = some Tryz.f105 := Tryz.func105
theorem nt_r13_standing : Tryz.f105.ntmps = 89 := Tryz.ntmps105
def ic_r13_standing : IC := (.seq (.ops [.o 3 (.box (.t 0)), .o 4 (.box (.t 1)), .o 5 (.box (.t 2)), .o 6 (.mv (.c (.int .i64 0)))])
  (.seq (.seq (.ops [.o 7 (.fa 0 0 (.t 4)), .o 8 (.ld false 1 (.t 7)), .o 9 (.bin .eql (.t 8) (.c (.int .i64 8))), .o 10 (.mv (.t 9)), .og 11 10 false (.fa 0 0 (.t 4)), .og 12 10 false (.ld false 1 (.t 11)), .og 13 10 false (.bin .eql (.t 12) (.c (.int .i64 9))), .o 14 (.pick (.t 10) (.c (.bool true)) (.t 13))])
  (.cond (.t 14)
  (.seq (.ops [.o 6 (.mv (.c (.int .i64 130)))])
  .ret)
  .skip))
  (.seq (.seq (.ops [.o 15 (.fa 0 0 (.t 5)), .o 16 (.ld false 1 (.t 15)), .o 17 (.bin .eql (.t 16) (.c (.int .i64 4))), .o 18 (.mv (.t 17)), .og 19 18 false (.fa 0 0 (.t 5)), .og 20 18 false (.ld false 1 (.t 19)), .og 21 18 false (.bin .eql (.t 20) (.c (.int .i64 5))), .o 22 (.pick (.t 18) (.c (.bool true)) (.t 21)), .o 23 (.mv (.t 22)), .og 24 23 false (.fa 0 0 (.t 5)), .og 25 23 false (.ld false 1 (.t 24)), .og 26 23 false (.bin .eql (.t 25) (.c (.int .i64 6))), .o 27 (.pick (.t 23) (.c (.bool true)) (.t 26)), .o 28 (.mv (.t 27)), .og 29 28 true (.ld true 15 (.t 4)), .og 30 28 true (.call 92 [(.t 29)]), .og 31 28 true (.un .not (.t 30)), .o 32 (.pick (.t 28) (.t 31) (.c (.bool false)))])
  (.cond (.t 32)
  (.seq (.ops [.o 6 (.mv (.c (.int .i64 131)))])
  .ret)
  .skip))
  (.seq (.seq (.ops [.o 33 (.fa 0 0 (.t 5)), .o 34 (.ld false 1 (.t 33)), .o 35 (.bin .eql (.t 34) (.c (.int .i64 4))), .o 36 (.mv (.t 35)), .og 37 36 false (.fa 0 0 (.t 5)), .og 38 36 false (.ld false 1 (.t 37)), .og 39 36 false (.bin .eql (.t 38) (.c (.int .i64 6))), .o 40 (.pick (.t 36) (.c (.bool true)) (.t 39)), .o 41 (.mv (.t 40)), .og 42 41 true (.fa 0 0 (.t 4)), .og 43 41 true (.ld false 1 (.t 42)), .og 44 41 true (.bin .eql (.t 43) (.c (.int .i64 4))), .o 45 (.pick (.t 41) (.t 44) (.c (.bool false)))])
  (.cond (.t 45)
  (.seq (.ops [.o 6 (.mv (.c (.int .i64 132)))])
  .ret)
  .skip))
  (.seq (.seq (.ops [.o 46 (.fa 0 0 (.t 5)), .o 47 (.ld false 1 (.t 46)), .o 48 (.bin .eql (.t 47) (.c (.int .i64 4))), .o 49 (.mv (.t 48)), .og 50 49 true (.fa 5 5 (.t 4)), .og 51 49 true (.ld false 1 (.t 50)), .og 52 49 true (.fa 9 9 (.t 3)), .og 53 49 true (.ld false 1 (.t 52)), .og 54 49 true (.bin .geq (.t 51) (.t 53)), .o 55 (.pick (.t 49) (.t 54) (.c (.bool false)))])
  (.cond (.t 55)
  (.seq (.ops [.o 6 (.mv (.c (.int .i64 133)))])
  .ret)
  .skip))
  (.seq (.seq (.ops [.o 56 (.fa 0 0 (.t 5)), .o 57 (.ld false 1 (.t 56)), .o 58 (.bin .eql (.t 57) (.c (.int .i64 5))), .o 59 (.mv (.t 58)), .og 60 59 true (.fa 12 12 (.t 4)), .og 61 59 true (.ld false 1 (.t 60)), .og 62 59 true (.fa 11 11 (.t 3)), .og 63 59 true (.ld false 1 (.t 62)), .og 64 59 true (.bin .geq (.t 61) (.t 63)), .o 65 (.pick (.t 59) (.t 64) (.c (.bool false)))])
  (.cond (.t 65)
  (.seq (.ops [.o 6 (.mv (.c (.int .i64 133)))])
  .ret)
  .skip))
  (.seq (.seq (.ops [.o 66 (.fa 0 0 (.t 5)), .o 67 (.ld false 1 (.t 66)), .o 68 (.bin .eql (.t 67) (.c (.int .i64 6))), .o 69 (.mv (.t 68)), .og 70 69 true (.fa 13 13 (.t 4)), .og 71 69 true (.ld false 1 (.t 70)), .og 72 69 true (.fa 3 3 (.t 5)), .og 73 69 true (.ld false 1 (.t 72)), .og 74 69 true (.fa 7 7 (.t 3)), .og 75 69 true (.ld false 1 (.t 74)), .og 76 69 true (.call 122 [(.t 71), (.t 73), (.t 75)]), .og 77 69 true (.un .not (.t 76)), .og 78 69 true (.mv (.t 77)), .og 79 78 false (.fa 14 14 (.t 4)), .og 80 78 false (.ld false 1 (.t 79)), .og 81 78 false (.fa 3 3 (.t 5)), .og 82 78 false (.ld false 1 (.t 81)), .og 83 78 false (.fa 8 8 (.t 3)), .og 84 78 false (.ld false 1 (.t 83)), .og 85 78 false (.call 122 [(.t 80), (.t 82), (.t 84)]), .og 86 78 false (.un .not (.t 85)), .og 87 69 true (.pick (.t 78) (.c (.bool true)) (.t 86)), .o 88 (.pick (.t 69) (.t 87) (.c (.bool false)))])
  (.cond (.t 88)
  (.seq (.ops [.o 6 (.mv (.c (.int .i64 133)))])
  .ret)
  .skip))
  (.seq (.ops [.o 6 (.mv (.c (.int .i64 0)))])
  .ret))))))))
theorem hc_r13_standing : compF Tryz.prog 89 Tryz.f105 = some (ic_r13_standing, [.t 6]) := by kernel_rfl

theorem fn_r13_taken : Tryz.prog.funcs[r13_taken]? = some Tryz.f106 := Tryz.func106
theorem nt_r13_taken : Tryz.f106.ntmps = 92 := Tryz.ntmps106
def ic_r13_taken : IC := (.seq (.ops [.o 3 (.box (.t 0)), .o 4 (.box (.t 1)), .o 5 (.box (.t 2)), .o 6 (.alloc (.st (.cons (.val (.int .i64 0)) (.cons (.val (.bool false)) (.cons (.val (.int .i64 0)) (.cons (.val (.int .i64 0)) (.cons (.val (.int .i64 0)) (.cons (.val (.int .i64 0)) (.cons (.val (.int .i64 0)) (.cons (.val (.int .i64 0)) (.cons (.val (.int .i64 0)) (.cons (.val (.int .i64 0)) (.cons (.val (.int .i64 0)) (.cons (.val (.int .i64 0)) (.cons (.val (.int .i64 0)) (.cons (.val (.int .i64 0)) (.cons (.val (.int .i64 0)) .nil))))))))))))))))), .o 7 (.mv (.c (.slice none 0 0)))])
  (.seq (.seq (.ops [.o 9 (.fa 0 0 (.t 5)), .o 10 (.ld false 1 (.t 9))])
  (.block 0 (.seq (.ops [.o 12 (.bin .eql (.t 10) (.c (.int .i64 1))), .o 11 (.mv (.t 12))])
  (.cond (.t 11)
  (.seq (.ops [.o 13 (.ld true 18 (.t 3)), .o 14 (.ld true 15 (.t 4)), .o 15 (.ld true 4 (.t 5)), .o 16 (.call 123 [(.t 13), (.t 14), (.t 15)]), .o 17 (.ext 0 (.t 16)), .o 18 (.ext 1 (.t 16)), .n (.sto 15 (.t 6) (.t 17)), .o 7 (.mv (.t 18))])
  .ret)
  (.seq (.ops [.o 20 (.bin .eql (.t 10) (.c (.int .i64 2))), .o 19 (.mv (.t 20))])
  (.cond (.t 19)
  (.seq (.ops [.o 21 (.ld true 15 (.t 4)), .o 22 (.ld true 4 (.t 5)), .o 23 (.call 124 [(.t 21), (.t 22)]), .o 24 (.ext 0 (.t 23)), .o 25 (.ext 1 (.t 23)), .n (.sto 15 (.t 6) (.t 24)), .o 7 (.mv (.t 25))])
  .ret)
  (.seq (.ops [.o 27 (.bin .eql (.t 10) (.c (.int .i64 3))), .o 26 (.mv (.t 27))])
  (.cond (.t 26)
  (.seq (.ops [.o 28 (.ld true 15 (.t 4)), .o 29 (.ld true 4 (.t 5)), .o 30 (.call 125 [(.t 28), (.t 29)]), .n (.sto 15 (.t 6) (.t 30)), .o 7 (.mv (.c (.slice none 0 0)))])
  .ret)
  (.seq (.ops [.o 32 (.bin .eql (.t 10) (.c (.int .i64 4))), .o 31 (.mv (.t 32))])
  (.cond (.t 31)
  (.seq (.ops [.o 33 (.fa 5 5 (.t 4)), .o 34 (.ld false 1 (.t 33)), .o 35 (.bin .add (.t 34) (.c (.int .i64 1))), .o 36 (.fa 5 5 (.t 4)), .n (.sto 1 (.t 36) (.t 35))])
  (.seq (.ops [.o 37 (.fa 1 1 (.t 5)), .o 38 (.ld false 1 (.t 37)), .o 39 (.fa 2 2 (.t 5)), .o 40 (.ld false 1 (.t 39)), .o 41 (.bin .add (.t 38) (.t 40)), .o 42 (.fa 6 6 (.t 4)), .n (.sto 1 (.t 42) (.t 41))])
  (.seq (.ops [.o 43 (.fa 3 3 (.t 5)), .o 44 (.ld false 1 (.t 43)), .o 45 (.fa 7 7 (.t 4)), .n (.sto 1 (.t 45) (.t 44))])
  (.seq (.ops [.o 46 (.fa 8 8 (.t 4)), .n (.sto 1 (.t 46) (.c (.int .i64 0)))])
  (.seq (.ops [.o 47 (.fa 4 4 (.t 4)), .o 48 (.ld false 1 (.t 47)), .o 49 (.fa 2 2 (.t 5)), .o 50 (.ld false 1 (.t 49)), .o 51 (.bin .add (.t 48) (.t 50)), .o 52 (.fa 4 4 (.t 4)), .n (.sto 1 (.t 52) (.t 51))])
  (.seq (.ops [.o 53 (.fa 0 0 (.t 4)), .n (.sto 1 (.t 53) (.c (.int .i64 4)))])
  (.seq (.ops [.o 54 (.ld true 15 (.t 4)), .n (.sto 15 (.t 6) (.t 54)), .o 7 (.mv (.c (.slice none 0 0)))])
  .ret)))))))
  (.seq (.ops [.o 56 (.bin .eql (.t 10) (.c (.int .i64 5))), .o 55 (.mv (.t 56))])
  (.cond (.t 55)
  (.seq (.ops [.o 57 (.fa 12 12 (.t 4)), .o 58 (.ld false 1 (.t 57)), .o 59 (.bin .add (.t 58) (.c (.int .i64 1))), .o 60 (.fa 12 12 (.t 4)), .n (.sto 1 (.t 60) (.t 59))])
  (.seq (.ops [.o 61 (.ld true 15 (.t 4)), .o 62 (.call 126 [(.t 61), (.c (.int .i64 7))]), .o 63 (.bsl 1 3 (.val (.int .i64 0)) [(0, 0, 1, (.c (.int .i64 7)))]), .n (.sto 15 (.t 6) (.t 62)), .o 7 (.mv (.t 63))])
  .ret))
  (.seq (.ops [.o 65 (.bin .eql (.t 10) (.c (.int .i64 6))), .o 64 (.mv (.t 65))])
  (.cond (.t 64)
  (.seq (.ops [.o 66 (.fa 13 13 (.t 4)), .o 67 (.ld false 1 (.t 66)), .o 68 (.fa 3 3 (.t 5)), .o 69 (.ld false 1 (.t 68)), .o 70 (.bin .add (.t 67) (.t 69)), .o 71 (.fa 13 13 (.t 4)), .n (.sto 1 (.t 71) (.t 70))])
  (.seq (.ops [.o 72 (.fa 14 14 (.t 4)), .o 73 (.ld false 1 (.t 72)), .o 74 (.fa 3 3 (.t 5)), .o 75 (.ld false 1 (.t 74)), .o 76 (.bin .add (.t 73) (.t 75)), .o 77 (.fa 14 14 (.t 4)), .n (.sto 1 (.t 77) (.t 76))])
  (.seq (.ops [.o 78 (.ld true 15 (.t 4)), .n (.sto 15 (.t 6) (.t 78)), .o 7 (.mv (.c (.slice none 0 0)))])
  .ret)))
  .skip))))))))))))))
  (.seq (.ops [.o 8 (.mv (.c (.slice none 0 0)))])
  (.seq (.seq (.ops [.o 79 (.ld true 15 (.t 4)), .o 80 (.call 92 [(.t 79)])])
  (.cond (.t 80)
  (.seq (.ops [.o 81 (.ld true 15 (.t 4)), .o 82 (.call 127 [(.t 81)]), .n (.sto 15 (.t 4) (.t 82))])
  (.ops [.o 83 (.mv (.t 8)), .o 84 (.bsl 1 3 (.val (.int .i64 0)) [(0, 0, 1, (.c (.int .i64 6)))]), .o 85 (.app 1 8 3 (.t 83) (.t 84)), .o 8 (.mv (.t 85))]))
  .skip))
  (.seq (.ops [.o 86 (.fa 0 0 (.t 4)), .n (.sto 1 (.t 86) (.c (.int .i64 9)))])
  (.seq (.ops [.o 87 (.mv (.t 8)), .o 88 (.bsl 1 3 (.val (.int .i64 0)) [(0, 0, 1, (.c (.int .i64 8)))]), .o 89 (.app 1 8 3 (.t 87) (.t 88)), .o 8 (.mv (.t 89))])
  (.seq (.ops [.o 90 (.ld true 15 (.t 4)), .o 91 (.mv (.t 8)), .n (.sto 15 (.t 6) (.t 90)), .o 7 (.mv (.t 91))])
  .ret)))))))
theorem hc_r13_taken : compF Tryz.prog 92 Tryz.f106 = some (ic_r13_taken, [.c 6 true 15, .t 7]) := by kernel_rfl

theorem fn_r14_pastDue : Tryz.prog.funcs[r14_pastDue]? = some Tryz.f107 := Tryz.func107
theorem nt_r14_pastDue : Tryz.f107.ntmps = 10 := Tryz.ntmps107
def ic_r14_pastDue : IC := (.seq (.ops [.o 1 (.box (.t 0)), .o 2 (.mv (.c (.int .i64 0)))])
  (.seq (.dops [.o 3 (.fa 2 7 (.t 1)), .o 4 (.ld false 1 (.t 3)), .o 5 (.ld true 46 (.t 1)), .o 6 (.call 91 [(.t 5)]), .o 7 (.fa 5 35 (.t 1)), .o 8 (.ld false 1 (.t 7)), .o 9 (.call 128 [(.t 4), (.t 6), (.t 8)]), .o 2 (.mv (.t 9))])
  .ret))
theorem hc_r14_pastDue : compF Tryz.prog 10 Tryz.f107 = some (ic_r14_pastDue, [.t 2]) := by kernel_rfl

theorem fn_r14_given : Tryz.prog.funcs[r14_given]? = some Tryz.f108 := Tryz.func108
theorem nt_r14_given : Tryz.f108.ntmps = 55 := Tryz.ntmps108
def ic_r14_given : IC := (.seq (.ops [.o 1 (.box (.t 0)), .o 2 (.alloc (.st (.cons (.st (.cons (.val (.int .i64 0)) (.cons (.val (.int .i64 0)) (.cons (.val (.int .i64 0)) (.cons (.val (.int .i64 0)) (.cons (.val (.int .i64 0)) (.cons (.val (.int .i64 0)) (.cons (.val (.int .i64 0)) (.cons (.val (.int .i64 0)) (.cons (.val (.int .i64 0)) (.cons (.val (.int .i64 0)) (.cons (.val (.int .i64 0)) (.cons (.val (.int .i64 0)) (.cons (.val (.int .i64 0)) (.cons (.val (.int .i64 0)) (.cons (.val (.int .i64 0)) (.cons (.val (.int .i64 0)) (.cons (.val (.int .i64 0)) (.cons (.val (.slice none 0 0)) .nil))))))))))))))))))) (.cons (.st (.cons (.val (.int .i64 0)) (.cons (.st (.cons (.val (.int .i64 0)) (.cons (.val (.int .i64 0)) (.cons (.val (.int .i64 0)) (.cons (.val (.int .i64 0)) (.cons (.val (.int .i64 0)) (.cons (.val (.int .i64 0)) .nil))))))) (.cons (.val (.slice none 0 0)) (.cons (.st (.cons (.arr 12 1 fun _ => (.val (.int .i64 0))) .nil)) (.cons (.st (.cons (.val (.int .i64 0)) (.cons (.val (.bool false)) (.cons (.val (.int .i64 0)) (.cons (.val (.int .i64 0)) (.cons (.val (.int .i64 0)) (.cons (.val (.int .i64 0)) (.cons (.val (.int .i64 0)) (.cons (.val (.int .i64 0)) (.cons (.val (.int .i64 0)) (.cons (.val (.int .i64 0)) (.cons (.val (.int .i64 0)) (.cons (.val (.int .i64 0)) (.cons (.val (.int .i64 0)) (.cons (.val (.int .i64 0)) (.cons (.val (.int .i64 0)) .nil)))))))))))))))) (.cons (.val (.int .i64 0)) (.cons (.val (.int .i64 0)) (.cons (.val (.int .i64 0)) (.cons (.st (.cons (.val (.int .i64 0)) (.cons (.val (.int .i64 0)) (.cons (.val (.int .i64 0)) (.cons (.val (.int .i64 0)) (.cons (.val (.int .i64 0)) .nil)))))) (.cons (.val (.bool false)) (.cons (.val (.int .i64 0)) (.cons (.val (.int .i64 0)) .nil))))))))))))) (.cons (.st (.cons (.val (.int .i64 0)) (.cons (.val (.int .i64 0)) (.cons (.val (.int .i64 0)) (.cons (.val (.int .i64 0)) (.cons (.val (.int .i64 0)) .nil)))))) (.cons (.val (.slice none 0 0)) (.cons (.val (.int .i64 0)) .nil)))))))])
  (.seq (.ops [.o 7 (.fa 1 18 (.t 1)), .o 8 (.ld true 46 (.t 7)), .o 9 (.call 75 [(.t 8)]), .o 3 (.alloc (.st (.cons (.val (.int .i64 0)) (.cons (.val (.int .i64 0)) (.cons (.val (.int .i64 0)) .nil))))), .n (.sto 3 (.t 3) (.t 9))])
  (.seq (.ops [.o 10 (.fa 1 18 (.t 1)), .o 11 (.ld true 46 (.t 10)), .o 12 (.call 74 [(.t 11), (.c (.int .i64 5))]), .o 4 (.mv (.t 12))])
  (.seq (.ops [.o 13 (.mv (.t 4)), .o 5 (.mv (.t 13))])
  (.seq (.seq (.ops [.o 14 (.fa 1 1 (.t 3)), .o 15 (.ld false 1 (.t 14)), .o 16 (.mv (.t 5)), .o 17 (.bin .lss (.t 15) (.t 16))])
  (.cond (.t 17)
  (.ops [.o 18 (.fa 1 1 (.t 3)), .o 19 (.ld false 1 (.t 18)), .o 5 (.mv (.t 19))])
  .skip))
  (.seq (.ops [.o 20 (.ld true 3 (.t 3)), .o 21 (.call 76 [(.t 20)]), .o 22 (.fa 1 18 (.t 1)), .o 23 (.fa 10 44 (.t 22)), .n (.sto 1 (.t 23) (.t 21))])
  (.seq (.ops [.o 6 (.mv (.c (.slice none 0 0)))])
  (.seq (.ops [.o 24 (.mv (.t 6)), .o 25 (.mv (.t 5)), .o 26 (.call 46 [(.t 24), (.c (.int .i64 5)), (.c (.int .i64 2)), (.t 25)]), .o 6 (.mv (.t 26))])
  (.seq (.ops [.o 27 (.mv (.t 6)), .o 28 (.mv (.t 4)), .o 29 (.mv (.t 5)), .o 30 (.bin .sub (.t 28) (.t 29)), .o 31 (.call 46 [(.t 27), (.c (.int .i64 5)), (.c (.int .i64 7)), (.t 30)]), .o 6 (.mv (.t 31))])
  (.seq (.ops [.o 32 (.mv (.t 6)), .o 33 (.fa 2 2 (.t 3)), .o 34 (.ld false 1 (.t 33)), .o 35 (.call 46 [(.t 32), (.c (.int .i64 9)), (.c (.int .i64 1)), (.t 34)]), .o 6 (.mv (.t 35))])
  (.seq (.ops [.o 36 (.mv (.t 6)), .o 37 (.fa 1 1 (.t 3)), .o 38 (.ld false 1 (.t 37)), .o 39 (.mv (.t 5)), .o 40 (.bin .sub (.t 38) (.t 39)), .o 41 (.call 46 [(.t 36), (.c (.int .i64 9)), (.c (.int .i64 2)), (.t 40)]), .o 6 (.mv (.t 41))])
  (.seq (.ops [.o 42 (.mv (.t 6)), .o 43 (.fa 0 0 (.t 3)), .o 44 (.ld false 1 (.t 43)), .o 45 (.call 46 [(.t 42), (.c (.int .i64 9)), (.c (.int .i64 3)), (.t 44)]), .o 6 (.mv (.t 45))])
  (.seq (.ops [.o 46 (.ld true 71 (.t 1)), .o 47 (.mv (.t 6)), .o 48 (.call 45 [(.t 46), (.t 47)]), .n (.sto 71 (.t 1) (.t 48))])
  (.seq (.dops [.o 49 (.ld true 71 (.t 1)), .o 50 (.call 72 [(.t 49)]), .o 51 (.fa 1 18 (.t 1)), .o 52 (.fa 10 44 (.t 51)), .o 53 (.ld false 1 (.t 52)), .o 54 (.call 73 [(.t 50), (.c (.int .i64 4)), (.t 53)]), .n (.sto 71 (.t 2) (.t 54))])
  .ret))))))))))))))
theorem hc_r14_given : compF Tryz.prog 55 Tryz.f108 = some (ic_r14_given, [.c 2 true 71]) := by kernel_rfl

theorem fn_r10_Oldest : Tryz.prog.funcs[r10_Oldest]? = some Tryz.f109 := Tryz.func109
theorem nt_r10_Oldest : Tryz.f109.ntmps = 18 := Tryz.ntmps109
def ic_r10_Oldest : IC := (.seq (.ops [.o 3 (.box (.t 1)), .o 4 (.mv (.c (.int .i64 0))), .o 5 (.mv (.c (.bool false)))])
  (.seq (.ops [.o 8 (.mv (.t 0)), .o 9 (.call 111 [(.t 8)]), .o 6 (.mv (.t 9))])
  (.seq (.ops [.o 10 (.mv (.t 6)), .o 11 (.ld true 2 (.t 3)), .o 12 (.call 112 [(.t 10), (.t 11)]), .o 7 (.mv (.t 12))])
  (.seq (.seq (.ops [.o 13 (.mv (.t 7)), .o 14 (.mv (.t 6)), .o 15 (.len (.t 14)), .o 16 (.bin .geq (.t 13) (.t 15))])
  (.cond (.t 16)
  (.seq (.ops [.o 4 (.mv (.c (.int .i64 0))), .o 5 (.mv (.c (.bool false)))])
  .ret)
  .skip))
  (.seq (.ops [.o 17 (.mv (.t 7)), .o 4 (.mv (.t 17)), .o 5 (.mv (.c (.bool true)))])
  .ret)))))
theorem hc_r10_Oldest : compF Tryz.prog 18 Tryz.f109 = some (ic_r10_Oldest, [.t 4, .t 5]) := by kernel_rfl

theorem fn_r10_late : Tryz.prog.funcs[r10_late]? = some Tryz.f110 := Tryz.func110
theorem nt_r10_late : Tryz.f110.ntmps = 13 := Tryz.ntmps110
def ic_r10_late : IC := (.seq (.ops [.o 2 (.box (.t 0)), .o 4 (.mv (.c (.int .i64 0)))])
  (.seq (.seq (.ops [.o 5 (.mv (.t 1)), .o 6 (.fa 0 0 (.t 2)), .o 7 (.ld false 1 (.t 6)), .o 8 (.bin .leq (.t 5) (.t 7))])
  (.cond (.t 8)
  (.seq (.ops [.o 4 (.mv (.c (.int .i64 0)))])
  .ret)
  .skip))
  (.seq (.ops [.o 9 (.mv (.t 1)), .o 10 (.fa 0 0 (.t 2)), .o 11 (.ld false 1 (.t 10)), .o 12 (.bin .sub (.t 9) (.t 11)), .o 4 (.mv (.t 12))])
  .ret)))
theorem hc_r10_late : compF Tryz.prog 13 Tryz.f110 = some (ic_r10_late, [.t 4]) := by kernel_rfl

theorem fn_r10_rows : Tryz.prog.funcs[r10_rows]? = some Tryz.f111 := Tryz.func111
theorem nt_r10_rows : Tryz.f111.ntmps = 6 := Tryz.ntmps111
def ic_r10_rows : IC := (.seq (.ops [.o 2 (.mv (.c (.slice none 0 0)))])
  (.seq (.seq (.ops [.o 3 (.mv (.t 0)), .o 4 (.call 129 [(.t 3)])])
  (.cond (.t 4)
  (.seq (.ops [.o 5 (.mv (.t 0)), .o 2 (.mv (.t 5))])
  .ret)
  .skip))
  (.seq (.ops [.o 2 (.mv (.c (.slice none 0 0)))])
  .ret)))
theorem hc_r10_rows : compF Tryz.prog 6 Tryz.f111 = some (ic_r10_rows, [.t 2]) := by kernel_rfl

theorem fn_r10_satisfied : Tryz.prog.funcs[r10_satisfied]? = some Tryz.f112 := Tryz.func112
theorem nt_r10_satisfied : Tryz.f112.ntmps = 40 := Tryz.ntmps112
def ic_r10_satisfied : IC := (.seq (.ops [.o 3 (.box (.t 1)), .o 4 (.mv (.c (.int .i64 0)))])
  (.seq (.seq (.ops [.o 8 (.fa 1 1 (.t 3)), .o 9 (.ld false 1 (.t 8)), .o 10 (.bin .leq (.t 9) (.c (.int .i64 0)))])
  (.cond (.t 10)
  (.seq (.ops [.o 11 (.mv (.t 0)), .o 12 (.len (.t 11)), .o 4 (.mv (.t 12))])
  .ret)
  .skip))
  (.seq (.ops [.o 5 (.mv (.c (.int .i64 0)))])
  (.seq (.ops [.o 6 (.mv (.c (.int .i64 0)))])
  (.seq (.seq (.ops [.o 7 (.mv (.c (.int .i64 0)))])
  (.block 0 (.loop (.seq (.seq (.ops [.o 13 (.mv (.t 7)), .o 14 (.bin .add (.t 13) (.c (.int .i64 1))), .o 15 (.mv (.t 0)), .o 16 (.len (.t 15)), .o 17 (.bin .lss (.t 14) (.t 16))])
  (.cond (.t 17)
  .skip
  (.exit 0)))
  (.seq (.block 1 (.seq (.dops [.o 20 (.mv (.t 6)), .o 21 (.mv (.t 0)), .o 22 (.mv (.t 7)), .o 23 (.ixs 4 (.t 21) (.t 22)), .o 24 (.fa 1 1 (.t 23)), .o 25 (.ld false 1 (.t 24)), .o 26 (.bin .add (.t 20) (.t 25)), .o 27 (.mv (.t 0)), .o 28 (.mv (.t 7)), .o 29 (.ixs 4 (.t 27) (.t 28)), .o 30 (.fa 2 2 (.t 29)), .o 31 (.ld false 1 (.t 30)), .o 32 (.bin .add (.t 26) (.t 31)), .o 6 (.mv (.t 32))])
  (.seq (.ops [.o 33 (.mv (.t 6)), .o 34 (.ld true 2 (.t 3)), .o 35 (.call 130 [(.t 34)]), .o 36 (.bin .leq (.t 33) (.t 35))])
  (.cond (.t 36)
  (.ops [.o 37 (.mv (.t 7)), .o 38 (.bin .add (.t 37) (.c (.int .i64 1))), .o 5 (.mv (.t 38))])
  .skip))))
  (.ops [.o 18 (.mv (.t 7)), .o 19 (.bin .add (.t 18) (.c (.int .i64 1))), .o 7 (.mv (.t 19))]))))))
  (.seq (.ops [.o 39 (.mv (.t 5)), .o 4 (.mv (.t 39))])
  .ret))))))
theorem hc_r10_satisfied : compF Tryz.prog 40 Tryz.f112 = some (ic_r10_satisfied, [.t 4]) := by kernel_rfl

theorem fn_r12_good : Tryz.prog.funcs[r12_good]? = some Tryz.f113 := Tryz.func113
theorem nt_r12_good : Tryz.f113.ntmps = 12 := Tryz.ntmps113
def ic_r12_good : IC := (.seq (.ops [.o 1 (.box (.t 0)), .o 2 (.mv (.c (.bool false)))])
  (.seq (.ops [.o 6 (.ld true 18 (.t 1)), .o 7 (.call 9 [(.t 6)]), .o 5 (.mv (.t 7)), .o 8 (.ext 0 (.t 5)), .o 9 (.ext 1 (.t 5)), .o 3 (.mv (.t 8)), .o 4 (.mv (.t 9))])
  (.seq (.ops [.o 10 (.mv (.t 3)), .o 11 (.bin .eql (.t 10) (.c (.int .i64 0))), .o 2 (.mv (.t 11))])
  .ret)))
theorem hc_r12_good : compF Tryz.prog 12 Tryz.f113 = some (ic_r12_good, [.t 2]) := by kernel_rfl

theorem fn_r12_LateFee : Tryz.prog.funcs[r12_LateFee]? = some Tryz.f114 := Tryz.func114
theorem nt_r12_LateFee : Tryz.f114.ntmps = 34 := Tryz.ntmps114
def ic_r12_LateFee : IC := (.seq (.ops [.o 2 (.box (.t 0)), .o 4 (.mv (.c (.int .i64 0)))])
  (.seq (.seq (.ops [.o 7 (.ld true 18 (.t 2)), .o 8 (.call 113 [(.t 7)]), .o 9 (.un .not (.t 8)), .o 10 (.mv (.t 9)), .og 11 10 false (.mv (.t 1)), .og 12 10 false (.bin .lss (.t 11) (.c (.int .i64 0))), .o 13 (.pick (.t 10) (.c (.bool true)) (.t 12))])
  (.cond (.t 13)
  (.seq (.ops [.o 4 (.mv (.c (.int .i64 0)))])
  .ret)
  .skip))
  (.seq (.ops [.o 15 (.mv (.t 1)), .o 16 (.fa 4 4 (.t 2)), .o 17 (.ld false 1 (.t 16)), .o 18 (.call 131 [(.t 15), (.t 17)]), .o 14 (.mv (.t 18)), .o 19 (.ext 0 (.t 14)), .o 20 (.ext 1 (.t 14)), .o 5 (.mv (.t 19)), .o 6 (.mv (.t 20))])
  (.seq (.seq (.ops [.o 21 (.mv (.t 5)), .o 22 (.fa 5 5 (.t 2)), .o 23 (.ld false 1 (.t 22)), .o 24 (.bin .lss (.t 21) (.t 23))])
  (.cond (.t 24)
  (.seq (.ops [.o 25 (.fa 5 5 (.t 2)), .o 26 (.ld false 1 (.t 25)), .o 4 (.mv (.t 26))])
  .ret)
  .skip))
  (.seq (.seq (.ops [.o 27 (.mv (.t 5)), .o 28 (.fa 6 6 (.t 2)), .o 29 (.ld false 1 (.t 28)), .o 30 (.bin .gtr (.t 27) (.t 29))])
  (.cond (.t 30)
  (.seq (.ops [.o 31 (.fa 6 6 (.t 2)), .o 32 (.ld false 1 (.t 31)), .o 4 (.mv (.t 32))])
  .ret)
  .skip))
  (.seq (.ops [.o 33 (.mv (.t 5)), .o 4 (.mv (.t 33))])
  .ret))))))
theorem hc_r12_LateFee : compF Tryz.prog 34 Tryz.f114 = some (ic_r12_LateFee, [.t 4]) := by kernel_rfl

theorem fn_r12_room : Tryz.prog.funcs[r12_room]? = some Tryz.f115 := Tryz.func115
theorem nt_r12_room : Tryz.f115.ntmps = 14 := Tryz.ntmps115
def ic_r12_room : IC := (.seq (.ops [.o 4 (.mv (.c (.int .i64 0)))])
  (.seq (.seq (.ops [.o 5 (.mv (.t 1)), .o 6 (.bin .leq (.t 5) (.c (.int .i64 0)))])
  (.cond (.t 6)
  (.seq (.ops [.o 7 (.mv (.t 0)), .o 4 (.mv (.t 7))])
  .ret)
  .skip))
  (.seq (.seq (.ops [.o 8 (.mv (.t 1)), .o 9 (.mv (.t 0)), .o 10 (.bin .geq (.t 8) (.t 9))])
  (.cond (.t 10)
  (.seq (.ops [.o 4 (.mv (.c (.int .i64 0)))])
  .ret)
  .skip))
  (.seq (.ops [.o 11 (.mv (.t 0)), .o 12 (.mv (.t 1)), .o 13 (.bin .sub (.t 11) (.t 12)), .o 4 (.mv (.t 13))])
  .ret))))
theorem hc_r12_room : compF Tryz.prog 14 Tryz.f115 = some (ic_r12_room, [.t 4]) := by kernel_rfl

theorem fn_r9_Turn : Tryz.prog.funcs[r9_Turn]? = some Tryz.f116 := Tryz.func116
theorem nt_r9_Turn : Tryz.f116.ntmps = 29 := Tryz.ntmps116
def ic_r9_Turn : IC := (.seq (.ops [.o 4 (.mv (.c (.int .i64 0)))])
  (.seq (.ops [.o 5 (.mv (.c (.int .i64 0)))])
  (.seq (.seq (.ops [.o 7 (.mv (.t 0))])
  (.block 0 (.seq (.ops [.o 9 (.bin .eql (.t 7) (.c (.int .i64 0))), .o 8 (.mv (.t 9))])
  (.cond (.t 8)
  (.ops [.o 5 (.mv (.c (.int .i64 321)))])
  (.seq (.ops [.o 11 (.bin .eql (.t 7) (.c (.int .i64 1))), .o 10 (.mv (.t 11))])
  (.cond (.t 10)
  (.ops [.o 5 (.mv (.c (.int .i64 312)))])
  (.seq (.ops [.o 13 (.bin .eql (.t 7) (.c (.int .i64 2))), .o 12 (.mv (.t 13))])
  (.cond (.t 12)
  (.ops [.o 5 (.mv (.c (.int .i64 231)))])
  (.seq (.ops [.o 15 (.bin .eql (.t 7) (.c (.int .i64 3))), .o 14 (.mv (.t 15))])
  (.cond (.t 14)
  (.ops [.o 5 (.mv (.c (.int .i64 213)))])
  (.seq (.ops [.o 17 (.bin .eql (.t 7) (.c (.int .i64 4))), .o 16 (.mv (.t 17))])
  (.cond (.t 16)
  (.ops [.o 5 (.mv (.c (.int .i64 132)))])
  (.seq (.ops [.o 19 (.bin .eql (.t 7) (.c (.int .i64 5))), .o 18 (.mv (.t 19))])
  (.cond (.t 18)
  (.ops [.o 5 (.mv (.c (.int .i64 123)))])
  (.seq (.ops [.o 4 (.mv (.c (.int .i64 (-1))))])
  .ret)))))))))))))))
  (.seq (.seq (.ops [.o 20 (.mv (.t 1)), .o 6 (.mv (.t 20))])
  (.block 1 (.loop (.seq (.seq (.ops [.o 21 (.mv (.t 6)), .o 22 (.bin .lss (.t 21) (.c (.int .i64 2)))])
  (.cond (.t 22)
  .skip
  (.exit 1)))
  (.seq (.block 2 (.ops [.o 25 (.mv (.t 5)), .o 26 (.bin .quo (.t 25) (.c (.int .i64 10))), .o 5 (.mv (.t 26))]))
  (.ops [.o 23 (.mv (.t 6)), .o 24 (.bin .add (.t 23) (.c (.int .i64 1))), .o 6 (.mv (.t 24))]))))))
  (.seq (.ops [.o 27 (.mv (.t 5)), .o 28 (.bin .rem (.t 27) (.c (.int .i64 10))), .o 4 (.mv (.t 28))])
  .ret)))))
theorem hc_r9_Turn : compF Tryz.prog 29 Tryz.f116 = some (ic_r9_Turn, [.t 4]) := by kernel_rfl

theorem fn_r9_part : Tryz.prog.funcs[r9_part]? = some Tryz.f117 := Tryz.func117
theorem nt_r9_part : Tryz.f117.ntmps = 46 := Tryz.ntmps117
def ic_r9_part : IC := (.seq (.ops [.o 5 (.box (.t 1)), .o 8 (.mv (.c (.int .i64 0)))])
  (.seq (.ops [.o 12 (.mv (.t 2)), .o 9 (.mv (.t 12))])
  (.seq (.seq (.ops [.o 10 (.mv (.c (.int .i64 0)))])
  (.block 0 (.loop (.seq (.seq (.ops [.o 13 (.mv (.t 10)), .o 14 (.mv (.t 3)), .o 15 (.bin .lss (.t 13) (.t 14))])
  (.cond (.t 15)
  .skip
  (.exit 0)))
  (.seq (.block 1 (.seq (.dops [.o 18 (.ld true 3 (.t 5)), .o 19 (.mv (.t 0)), .o 20 (.mv (.t 10)), .o 21 (.call 116 [(.t 19), (.t 20)]), .o 22 (.call 132 [(.t 18), (.t 21)]), .o 11 (.mv (.t 22))])
  (.seq (.seq (.ops [.o 23 (.mv (.t 11)), .o 24 (.mv (.t 9)), .o 25 (.bin .geq (.t 23) (.t 24))])
  (.cond (.t 25)
  (.seq (.ops [.o 8 (.mv (.c (.int .i64 0)))])
  .ret)
  .skip))
  (.ops [.o 26 (.mv (.t 9)), .o 27 (.mv (.t 11)), .o 28 (.bin .sub (.t 26) (.t 27)), .o 9 (.mv (.t 28))]))))
  (.ops [.o 16 (.mv (.t 10)), .o 17 (.bin .add (.t 16) (.c (.int .i64 1))), .o 10 (.mv (.t 17))]))))))
  (.seq (.seq (.dops [.o 29 (.mv (.t 3)), .o 30 (.bin .eql (.t 29) (.c (.int .i64 3))), .o 31 (.mv (.t 30)), .og 32 31 false (.mv (.t 9)), .og 33 31 false (.ld true 3 (.t 5)), .og 34 31 false (.mv (.t 0)), .og 35 31 false (.mv (.t 3)), .og 36 31 false (.call 116 [(.t 34), (.t 35)]), .og 37 31 false (.call 132 [(.t 33), (.t 36)]), .og 38 31 false (.bin .lss (.t 32) (.t 37)), .o 39 (.pick (.t 31) (.c (.bool true)) (.t 38))])
  (.cond (.t 39)
  (.seq (.ops [.o 40 (.mv (.t 9)), .o 8 (.mv (.t 40))])
  .ret)
  .skip))
  (.seq (.dops [.o 41 (.ld true 3 (.t 5)), .o 42 (.mv (.t 0)), .o 43 (.mv (.t 3)), .o 44 (.call 116 [(.t 42), (.t 43)]), .o 45 (.call 132 [(.t 41), (.t 44)]), .o 8 (.mv (.t 45))])
  .ret)))))
theorem hc_r9_part : compF Tryz.prog 46 Tryz.f117 = some (ic_r9_part, [.t 8]) := by kernel_rfl

theorem fn_r9_with : Tryz.prog.funcs[r9_with]? = some Tryz.f118 := Tryz.func118
theorem nt_r9_with : Tryz.f118.ntmps = 24 := Tryz.ntmps118
def ic_r9_with : IC := (.seq (.ops [.o 8 (.mv (.c (.slice none 0 0)))])
  (.seq (.seq (.ops [.o 10 (.mv (.t 2)), .o 11 (.bin .leq (.t 10) (.c (.int .i64 0)))])
  (.cond (.t 11)
  (.seq (.ops [.o 12 (.mv (.t 0)), .o 8 (.mv (.t 12))])
  .ret)
  .skip))
  (.seq (.ops [.o 13 (.mv (.t 1)), .o 14 (.mv (.t 2)), .o 15 (.build (.st (.cons (.val (.int .i64 0)) (.cons (.val (.int .i64 0)) (.cons (.val (.int .i64 0)) .nil)))) [(0, 0, 1, (.c (.int .i64 0))), (1, 1, 1, (.t 13)), (2, 2, 1, (.t 14))]), .o 9 (.alloc (.st (.cons (.val (.int .i64 0)) (.cons (.val (.int .i64 0)) (.cons (.val (.int .i64 0)) .nil))))), .n (.sto 3 (.t 9) (.t 15))])
  (.seq (.seq (.ops [.o 16 (.mv (.t 3))])
  (.cond (.t 16)
  (.ops [.o 17 (.mv (.t 1)), .o 18 (.mv (.t 2)), .o 19 (.build (.st (.cons (.val (.int .i64 0)) (.cons (.val (.int .i64 0)) (.cons (.val (.int .i64 0)) .nil)))) [(0, 0, 1, (.t 17)), (1, 1, 1, (.c (.int .i64 0))), (2, 2, 1, (.t 18))]), .n (.sto 3 (.t 9) (.t 19))])
  .skip))
  (.seq (.ops [.o 20 (.mv (.t 0)), .o 21 (.ld true 3 (.t 9)), .o 22 (.bsl 3 122 (.st (.cons (.val (.int .i64 0)) (.cons (.val (.int .i64 0)) (.cons (.val (.int .i64 0)) .nil)))) [(0, 0, 3, (.t 21))]), .o 23 (.app 3 24 122 (.t 20) (.t 22)), .o 8 (.mv (.t 23))])
  .ret)))))
theorem hc_r9_with : compF Tryz.prog 24 Tryz.f118 = some (ic_r9_with, [.t 8]) := by kernel_rfl

theorem fn_r2_divides : Tryz.prog.funcs[r2_divides]? = some Tryz.f119 := Tryz.func119
theorem nt_r2_divides : Tryz.f119.ntmps = 16 := Tryz.ntmps119
def ic_r2_divides : IC := (.seq (.ops [.o 2 (.mv (.c (.bool false)))])
  (.seq (.ops [.o 3 (.mv (.t 0)), .o 4 (.bin .rem (.t 3) (.c (.int .i64 4))), .o 5 (.bin .eql (.t 4) (.c (.int .i64 0))), .o 6 (.mv (.t 5)), .og 7 6 true (.mv (.t 0)), .og 8 6 true (.bin .rem (.t 7) (.c (.int .i64 100))), .og 9 6 true (.bin .neq (.t 8) (.c (.int .i64 0))), .og 10 6 true (.mv (.t 9)), .og 11 10 false (.mv (.t 0)), .og 12 10 false (.bin .rem (.t 11) (.c (.int .i64 400))), .og 13 10 false (.bin .eql (.t 12) (.c (.int .i64 0))), .og 14 6 true (.pick (.t 10) (.c (.bool true)) (.t 13)), .o 15 (.pick (.t 6) (.t 14) (.c (.bool false))), .o 2 (.mv (.t 15))])
  .ret))
theorem hc_r2_divides : compF Tryz.prog 16 Tryz.f119 = some (ic_r2_divides, [.t 2]) := by kernel_rfl

theorem fn_r2_MonthLen : Tryz.prog.funcs[r2_MonthLen]? = some Tryz.f120 := Tryz.func120
theorem nt_r2_MonthLen : Tryz.f120.ntmps = 22 := Tryz.ntmps120
def ic_r2_MonthLen : IC := (.seq (.ops [.o 4 (.mv (.c (.int .i64 0)))])
  (.seq (.seq (.ops [.o 5 (.mv (.t 0)), .o 6 (.bin .lss (.t 5) (.c (.int .i64 1))), .o 7 (.mv (.t 6)), .og 8 7 false (.mv (.t 0)), .og 9 7 false (.bin .gtr (.t 8) (.c (.int .i64 9999))), .o 10 (.pick (.t 7) (.c (.bool true)) (.t 9)), .o 11 (.mv (.t 10)), .og 12 11 false (.mv (.t 1)), .og 13 11 false (.bin .lss (.t 12) (.c (.int .i64 1))), .o 14 (.pick (.t 11) (.c (.bool true)) (.t 13)), .o 15 (.mv (.t 14)), .og 16 15 false (.mv (.t 1)), .og 17 15 false (.bin .gtr (.t 16) (.c (.int .i64 12))), .o 18 (.pick (.t 15) (.c (.bool true)) (.t 17))])
  (.cond (.t 18)
  (.seq (.ops [.o 4 (.mv (.c (.int .i64 0)))])
  .ret)
  .skip))
  (.seq (.ops [.o 19 (.mv (.t 0)), .o 20 (.mv (.t 1)), .o 21 (.call 101 [(.t 19), (.t 20)]), .o 4 (.mv (.t 21))])
  .ret)))
theorem hc_r2_MonthLen : compF Tryz.prog 22 Tryz.f120 = some (ic_r2_MonthLen, [.t 4]) := by kernel_rfl

theorem fn_r2_Business : Tryz.prog.funcs[r2_Business]? = some Tryz.f121 := Tryz.func121
theorem nt_r2_Business : Tryz.f121.ntmps = 31 := Tryz.ntmps121
def ic_r2_Business : IC := (.seq (.ops [.o 4 (.mv (.c (.bool false)))])
  (.seq (.ops [.o 9 (.mv (.t 0)), .o 10 (.call 133 [(.t 9)]), .o 8 (.mv (.t 10)), .o 11 (.ext 0 (.t 8)), .o 12 (.ext 1 (.t 8)), .o 5 (.mv (.t 11)), .o 6 (.mv (.t 12))])
  (.seq (.seq (.ops [.o 13 (.mv (.t 6)), .o 14 (.un .not (.t 13)), .o 15 (.mv (.t 14)), .og 16 15 false (.mv (.t 5)), .og 17 15 false (.bin .gtr (.t 16) (.c (.int .i64 5))), .o 18 (.pick (.t 15) (.c (.bool true)) (.t 17))])
  (.cond (.t 18)
  (.seq (.ops [.o 4 (.mv (.c (.bool false)))])
  .ret)
  .skip))
  (.seq (.seq (.ops [.o 7 (.mv (.c (.int .i64 0)))])
  (.block 0 (.loop (.seq (.seq (.ops [.o 19 (.mv (.t 7)), .o 20 (.mv (.t 1)), .o 21 (.len (.t 20)), .o 22 (.bin .lss (.t 19) (.t 21))])
  (.cond (.t 22)
  .skip
  (.exit 0)))
  (.seq (.block 1 (.seq (.ops [.o 25 (.mv (.t 1)), .o 26 (.mv (.t 7)), .o 27 (.ixs 1 (.t 25) (.t 26)), .o 28 (.ld false 1 (.t 27)), .o 29 (.mv (.t 0)), .o 30 (.bin .eql (.t 28) (.t 29))])
  (.cond (.t 30)
  (.seq (.ops [.o 4 (.mv (.c (.bool false)))])
  .ret)
  .skip)))
  (.ops [.o 23 (.mv (.t 7)), .o 24 (.bin .add (.t 23) (.c (.int .i64 1))), .o 7 (.mv (.t 24))]))))))
  (.seq (.ops [.o 4 (.mv (.c (.bool true)))])
  .ret)))))
theorem hc_r2_Business : compF Tryz.prog 31 Tryz.f121 = some (ic_r2_Business, [.t 4]) := by kernel_rfl

theorem fn_r13_fits : Tryz.prog.funcs[r13_fits]? = some Tryz.f122 := Tryz.func122
theorem nt_r13_fits : Tryz.f122.ntmps = 17 := Tryz.ntmps122
def ic_r13_fits : IC := (.seq (.ops [.o 6 (.mv (.c (.bool false)))])
  (.seq (.ops [.o 7 (.mv (.t 0)), .o 8 (.mv (.t 2)), .o 9 (.bin .leq (.t 7) (.t 8)), .o 10 (.mv (.t 9)), .og 11 10 true (.mv (.t 1)), .og 12 10 true (.mv (.t 2)), .og 13 10 true (.mv (.t 0)), .og 14 10 true (.bin .sub (.t 12) (.t 13)), .og 15 10 true (.bin .leq (.t 11) (.t 14)), .o 16 (.pick (.t 10) (.t 15) (.c (.bool false))), .o 6 (.mv (.t 16))])
  .ret))
theorem hc_r13_fits : compF Tryz.prog 17 Tryz.f122 = some (ic_r13_fits, [.t 6]) := by kernel_rfl

theorem fn_r13_age : Tryz.prog.funcs[r13_age]? = some Tryz.f123 := Tryz.func123
theorem nt_r13_age : Tryz.f123.ntmps = 95 := Tryz.ntmps123
def ic_r13_age : IC := (.seq (.ops [.o 3 (.box (.t 0)), .o 4 (.box (.t 1)), .o 5 (.box (.t 2)), .o 6 (.alloc (.st (.cons (.val (.int .i64 0)) (.cons (.val (.bool false)) (.cons (.val (.int .i64 0)) (.cons (.val (.int .i64 0)) (.cons (.val (.int .i64 0)) (.cons (.val (.int .i64 0)) (.cons (.val (.int .i64 0)) (.cons (.val (.int .i64 0)) (.cons (.val (.int .i64 0)) (.cons (.val (.int .i64 0)) (.cons (.val (.int .i64 0)) (.cons (.val (.int .i64 0)) (.cons (.val (.int .i64 0)) (.cons (.val (.int .i64 0)) (.cons (.val (.int .i64 0)) .nil))))))))))))))))), .o 7 (.mv (.c (.slice none 0 0)))])
  (.seq (.ops [.o 8 (.mv (.c (.slice none 0 0)))])
  (.seq (.seq (.ops [.o 11 (.fa 0 0 (.t 4)), .o 12 (.ld false 1 (.t 11)), .o 13 (.bin .eql (.t 12) (.c (.int .i64 4))), .o 14 (.mv (.t 13)), .og 15 14 true (.fa 1 1 (.t 5)), .og 16 14 true (.ld false 1 (.t 15)), .og 17 14 true (.fa 6 6 (.t 4)), .og 18 14 true (.ld false 1 (.t 17)), .og 19 14 true (.bin .gtr (.t 16) (.t 18)), .o 20 (.pick (.t 14) (.t 19) (.c (.bool false)))])
  (.cond (.t 20)
  (.seq (.ops [.o 21 (.fa 10 10 (.t 4)), .o 22 (.ld false 1 (.t 21)), .o 23 (.bin .add (.t 22) (.c (.int .i64 1))), .o 24 (.fa 10 10 (.t 4)), .n (.sto 1 (.t 24) (.t 23))])
  (.seq (.ops [.o 25 (.ld true 15 (.t 4)), .o 26 (.call 134 [(.t 25)]), .n (.sto 15 (.t 4) (.t 26))])
  (.ops [.o 27 (.mv (.t 8)), .o 28 (.bsl 1 3 (.val (.int .i64 0)) [(0, 0, 1, (.c (.int .i64 1)))]), .o 29 (.app 1 8 3 (.t 27) (.t 28)), .o 8 (.mv (.t 29))])))
  .skip))
  (.seq (.seq (.ops [.o 30 (.ld true 15 (.t 4)), .o 31 (.call 92 [(.t 30)]), .o 32 (.mv (.t 31)), .og 33 32 true (.fa 2 2 (.t 5)), .og 34 32 true (.ld false 1 (.t 33)), .og 35 32 true (.bin .eql (.t 34) (.c (.int .i64 0))), .o 36 (.pick (.t 32) (.t 35) (.c (.bool false)))])
  (.cond (.t 36)
  (.seq (.ops [.o 37 (.mv (.t 8)), .o 38 (.bsl 1 3 (.val (.int .i64 0)) [(0, 0, 1, (.c (.int .i64 6)))]), .o 39 (.app 1 8 3 (.t 37) (.t 38)), .o 8 (.mv (.t 39))])
  (.seq (.ops [.o 40 (.ld true 15 (.t 4)), .o 41 (.call 127 [(.t 40)]), .o 42 (.mv (.t 8)), .n (.sto 15 (.t 6) (.t 41)), .o 7 (.mv (.t 42))])
  .ret))
  .skip))
  (.seq (.seq (.ops [.o 43 (.ld true 15 (.t 4)), .o 44 (.call 92 [(.t 43)]), .o 45 (.un .not (.t 44))])
  (.cond (.t 45)
  (.seq (.ops [.o 47 (.ld true 18 (.t 3)), .o 48 (.ld true 15 (.t 4)), .o 49 (.ld true 4 (.t 5)), .o 50 (.call 135 [(.t 47), (.t 48), (.t 49)]), .o 46 (.mv (.t 50)), .o 51 (.ext 0 (.t 46)), .o 52 (.ext 1 (.t 46)), .o 9 (.alloc (.st (.cons (.val (.int .i64 0)) (.cons (.val (.bool false)) (.cons (.val (.int .i64 0)) (.cons (.val (.int .i64 0)) (.cons (.val (.int .i64 0)) (.cons (.val (.int .i64 0)) (.cons (.val (.int .i64 0)) (.cons (.val (.int .i64 0)) (.cons (.val (.int .i64 0)) (.cons (.val (.int .i64 0)) (.cons (.val (.int .i64 0)) (.cons (.val (.int .i64 0)) (.cons (.val (.int .i64 0)) (.cons (.val (.int .i64 0)) (.cons (.val (.int .i64 0)) .nil))))))))))))))))), .n (.sto 15 (.t 9) (.t 51)), .o 10 (.mv (.t 52))])
  (.seq (.ops [.o 53 (.ld true 15 (.t 9)), .n (.sto 15 (.t 4) (.t 53))])
  (.ops [.o 54 (.mv (.t 8)), .o 55 (.mv (.t 10)), .o 56 (.app 1 8 3 (.t 54) (.t 55)), .o 8 (.mv (.t 56))])))
  .skip))
  (.seq (.seq (.ops [.o 57 (.ld true 15 (.t 4)), .o 58 (.call 92 [(.t 57)]), .o 59 (.mv (.t 58)), .og 60 59 true (.fa 1 1 (.t 4)), .og 61 59 true (.ld false 1 (.t 60)), .og 62 59 true (.un .not (.t 61)), .o 63 (.pick (.t 59) (.t 62) (.c (.bool false))), .o 64 (.mv (.t 63)), .og 65 64 true (.fa 2 2 (.t 5)), .og 66 64 true (.ld false 1 (.t 65)), .og 67 64 true (.fa 2 2 (.t 3)), .og 68 64 true (.ld false 1 (.t 67)), .og 69 64 true (.bin .geq (.t 66) (.t 68)), .o 70 (.pick (.t 64) (.t 69) (.c (.bool false)))])
  (.cond (.t 70)
  (.seq (.ops [.o 71 (.fa 1 1 (.t 4)), .n (.sto 1 (.t 71) (.c (.bool true)))])
  (.seq (.seq (.ops [.o 72 (.fa 0 0 (.t 4)), .o 73 (.ld false 1 (.t 72)), .o 74 (.bin .eql (.t 73) (.c (.int .i64 3)))])
  (.cond (.t 74)
  (.ops [.o 75 (.fa 0 0 (.t 4)), .n (.sto 1 (.t 75) (.c (.int .i64 5)))])
  .skip))
  (.ops [.o 76 (.mv (.t 8)), .o 77 (.bsl 1 3 (.val (.int .i64 0)) [(0, 0, 1, (.c (.int .i64 3)))]), .o 78 (.app 1 8 3 (.t 76) (.t 77)), .o 8 (.mv (.t 78))])))
  .skip))
  (.seq (.seq (.ops [.o 79 (.ld true 15 (.t 4)), .o 80 (.call 92 [(.t 79)]), .o 81 (.mv (.t 80)), .og 82 81 true (.fa 1 1 (.t 5)), .og 83 81 true (.ld false 1 (.t 82)), .og 84 81 true (.fa 4 4 (.t 4)), .og 85 81 true (.ld false 1 (.t 84)), .og 86 81 true (.bin .geq (.t 83) (.t 85)), .o 87 (.pick (.t 81) (.t 86) (.c (.bool false)))])
  (.cond (.t 87)
  (.seq (.ops [.o 88 (.ld true 15 (.t 4)), .o 89 (.call 126 [(.t 88), (.c (.int .i64 8))]), .n (.sto 15 (.t 4) (.t 89))])
  (.ops [.o 90 (.mv (.t 8)), .o 91 (.bsl 1 3 (.val (.int .i64 0)) [(0, 0, 1, (.c (.int .i64 4)))]), .o 92 (.app 1 8 3 (.t 90) (.t 91)), .o 8 (.mv (.t 92))]))
  .skip))
  (.seq (.ops [.o 93 (.ld true 15 (.t 4)), .o 94 (.mv (.t 8)), .n (.sto 15 (.t 6) (.t 93)), .o 7 (.mv (.t 94))])
  .ret))))))))
theorem hc_r13_age : compF Tryz.prog 95 Tryz.f123 = some (ic_r13_age, [.c 6 true 15, .t 7]) := by kernel_rfl

theorem fn_r13_paid : Tryz.prog.funcs[r13_paid]? = some Tryz.f124 := Tryz.func124
theorem nt_r13_paid : Tryz.f124.ntmps = 57 := Tryz.ntmps124
def ic_r13_paid : IC := (.seq (.ops [.o 2 (.box (.t 0)), .o 3 (.box (.t 1)), .o 4 (.alloc (.st (.cons (.val (.int .i64 0)) (.cons (.val (.bool false)) (.cons (.val (.int .i64 0)) (.cons (.val (.int .i64 0)) (.cons (.val (.int .i64 0)) (.cons (.val (.int .i64 0)) (.cons (.val (.int .i64 0)) (.cons (.val (.int .i64 0)) (.cons (.val (.int .i64 0)) (.cons (.val (.int .i64 0)) (.cons (.val (.int .i64 0)) (.cons (.val (.int .i64 0)) (.cons (.val (.int .i64 0)) (.cons (.val (.int .i64 0)) (.cons (.val (.int .i64 0)) .nil))))))))))))))))), .o 5 (.mv (.c (.slice none 0 0)))])
  (.seq (.ops [.o 6 (.mv (.c (.slice none 0 0)))])
  (.seq (.seq (.ops [.o 7 (.fa 0 0 (.t 2)), .o 8 (.ld false 1 (.t 7)), .o 9 (.bin .eql (.t 8) (.c (.int .i64 4)))])
  (.cond (.t 9)
  (.seq (.ops [.o 10 (.fa 3 3 (.t 3)), .o 11 (.ld false 1 (.t 10)), .o 12 (.fa 7 7 (.t 2)), .o 13 (.ld false 1 (.t 12)), .o 14 (.fa 8 8 (.t 2)), .o 15 (.ld false 1 (.t 14)), .o 16 (.bin .sub (.t 13) (.t 15)), .o 17 (.bin .geq (.t 11) (.t 16))])
  (.cond (.t 17)
  (.seq (.ops [.o 18 (.fa 9 9 (.t 2)), .o 19 (.ld false 1 (.t 18)), .o 20 (.bin .add (.t 19) (.c (.int .i64 1))), .o 21 (.fa 9 9 (.t 2)), .n (.sto 1 (.t 21) (.t 20))])
  (.seq (.ops [.o 22 (.ld true 15 (.t 2)), .o 23 (.call 134 [(.t 22)]), .n (.sto 15 (.t 2) (.t 23))])
  (.ops [.o 24 (.mv (.t 6)), .o 25 (.bsl 1 3 (.val (.int .i64 0)) [(0, 0, 1, (.c (.int .i64 5)))]), .o 26 (.app 1 8 3 (.t 24) (.t 25)), .o 6 (.mv (.t 26))])))
  (.ops [.o 27 (.fa 8 8 (.t 2)), .o 28 (.ld false 1 (.t 27)), .o 29 (.fa 3 3 (.t 3)), .o 30 (.ld false 1 (.t 29)), .o 31 (.bin .add (.t 28) (.t 30)), .o 32 (.fa 8 8 (.t 2)), .n (.sto 1 (.t 32) (.t 31))])))
  .skip))
  (.seq (.seq (.ops [.o 33 (.ld true 15 (.t 2)), .o 34 (.call 92 [(.t 33)]), .o 35 (.mv (.t 34)), .og 36 35 true (.fa 2 2 (.t 3)), .og 37 35 true (.ld false 1 (.t 36)), .og 38 35 true (.bin .eql (.t 37) (.c (.int .i64 0))), .o 39 (.pick (.t 35) (.t 38) (.c (.bool false)))])
  (.cond (.t 39)
  (.seq (.ops [.o 40 (.mv (.t 6)), .o 41 (.bsl 1 3 (.val (.int .i64 0)) [(0, 0, 1, (.c (.int .i64 6)))]), .o 42 (.app 1 8 3 (.t 40) (.t 41)), .o 6 (.mv (.t 42))])
  (.seq (.ops [.o 43 (.ld true 15 (.t 2)), .o 44 (.call 127 [(.t 43)]), .o 45 (.mv (.t 6)), .n (.sto 15 (.t 4) (.t 44)), .o 5 (.mv (.t 45))])
  .ret))
  .skip))
  (.seq (.seq (.ops [.o 46 (.fa 0 0 (.t 2)), .o 47 (.ld false 1 (.t 46)), .o 48 (.bin .eql (.t 47) (.c (.int .i64 2))), .o 49 (.mv (.t 48)), .og 50 49 true (.fa 2 2 (.t 3)), .og 51 49 true (.ld false 1 (.t 50)), .og 52 49 true (.bin .eql (.t 51) (.c (.int .i64 0))), .o 53 (.pick (.t 49) (.t 52) (.c (.bool false)))])
  (.cond (.t 53)
  (.ops [.o 54 (.fa 0 0 (.t 2)), .n (.sto 1 (.t 54) (.c (.int .i64 1)))])
  .skip))
  (.seq (.ops [.o 55 (.ld true 15 (.t 2)), .o 56 (.mv (.t 6)), .n (.sto 15 (.t 4) (.t 55)), .o 5 (.mv (.t 56))])
  .ret))))))
theorem hc_r13_paid : compF Tryz.prog 57 Tryz.f124 = some (ic_r13_paid, [.c 4 true 15, .t 5]) := by kernel_rfl

theorem fn_r13_returned : Tryz.prog.funcs[r13_returned]? = some Tryz.f125 := Tryz.func125
theorem nt_r13_returned : Tryz.f125.ntmps = 21 := Tryz.ntmps125
def ic_r13_returned : IC := (.seq (.ops [.o 2 (.box (.t 0)), .o 3 (.box (.t 1)), .o 4 (.alloc (.st (.cons (.val (.int .i64 0)) (.cons (.val (.bool false)) (.cons (.val (.int .i64 0)) (.cons (.val (.int .i64 0)) (.cons (.val (.int .i64 0)) (.cons (.val (.int .i64 0)) (.cons (.val (.int .i64 0)) (.cons (.val (.int .i64 0)) (.cons (.val (.int .i64 0)) (.cons (.val (.int .i64 0)) (.cons (.val (.int .i64 0)) (.cons (.val (.int .i64 0)) (.cons (.val (.int .i64 0)) (.cons (.val (.int .i64 0)) (.cons (.val (.int .i64 0)) .nil)))))))))))))))))])
  (.seq (.seq (.ops [.o 5 (.fa 0 0 (.t 2)), .o 6 (.ld false 1 (.t 5)), .o 7 (.bin .eql (.t 6) (.c (.int .i64 4)))])
  (.cond (.t 7)
  (.seq (.ops [.o 8 (.fa 3 3 (.t 3)), .o 9 (.ld false 1 (.t 8)), .o 10 (.fa 8 8 (.t 2)), .o 11 (.ld false 1 (.t 10)), .o 12 (.bin .geq (.t 9) (.t 11))])
  (.cond (.t 12)
  (.ops [.o 13 (.fa 8 8 (.t 2)), .n (.sto 1 (.t 13) (.c (.int .i64 0)))])
  (.ops [.o 14 (.fa 8 8 (.t 2)), .o 15 (.ld false 1 (.t 14)), .o 16 (.fa 3 3 (.t 3)), .o 17 (.ld false 1 (.t 16)), .o 18 (.bin .sub (.t 15) (.t 17)), .o 19 (.fa 8 8 (.t 2)), .n (.sto 1 (.t 19) (.t 18))])))
  .skip))
  (.seq (.ops [.o 20 (.ld true 15 (.t 2)), .n (.sto 15 (.t 4) (.t 20))])
  .ret)))
theorem hc_r13_returned : compF Tryz.prog 21 Tryz.f125 = some (ic_r13_returned, [.c 4 true 15]) := by kernel_rfl

theorem fn_r13_ended : Tryz.prog.funcs[r13_ended]? = some Tryz.f126 := Tryz.func126
theorem nt_r13_ended : Tryz.f126.ntmps = 15 := Tryz.ntmps126
def ic_r13_ended : IC := (.seq (.ops [.o 2 (.box (.t 0)), .o 4 (.alloc (.st (.cons (.val (.int .i64 0)) (.cons (.val (.bool false)) (.cons (.val (.int .i64 0)) (.cons (.val (.int .i64 0)) (.cons (.val (.int .i64 0)) (.cons (.val (.int .i64 0)) (.cons (.val (.int .i64 0)) (.cons (.val (.int .i64 0)) (.cons (.val (.int .i64 0)) (.cons (.val (.int .i64 0)) (.cons (.val (.int .i64 0)) (.cons (.val (.int .i64 0)) (.cons (.val (.int .i64 0)) (.cons (.val (.int .i64 0)) (.cons (.val (.int .i64 0)) .nil)))))))))))))))))])
  (.seq (.ops [.o 5 (.ld true 15 (.t 2)), .o 6 (.call 136 [(.t 5)]), .n (.sto 15 (.t 2) (.t 6))])
  (.seq (.ops [.o 7 (.fa 1 1 (.t 2)), .n (.sto 1 (.t 7) (.c (.bool false)))])
  (.seq (.ops [.o 8 (.fa 3 3 (.t 2)), .n (.sto 1 (.t 8) (.c (.int .i64 0)))])
  (.seq (.ops [.o 9 (.fa 4 4 (.t 2)), .n (.sto 1 (.t 9) (.c (.int .i64 0)))])
  (.seq (.ops [.o 10 (.fa 5 5 (.t 2)), .n (.sto 1 (.t 10) (.c (.int .i64 0)))])
  (.seq (.ops [.o 11 (.fa 13 13 (.t 2)), .n (.sto 1 (.t 11) (.c (.int .i64 0)))])
  (.seq (.ops [.o 12 (.mv (.t 1)), .o 13 (.fa 0 0 (.t 2)), .n (.sto 1 (.t 13) (.t 12))])
  (.seq (.ops [.o 14 (.ld true 15 (.t 2)), .n (.sto 15 (.t 4) (.t 14))])
  .ret)))))))))
theorem hc_r13_ended : compF Tryz.prog 15 Tryz.f126 = some (ic_r13_ended, [.c 4 true 15]) := by kernel_rfl

theorem fn_r13_cure : Tryz.prog.funcs[r13_cure]? = some Tryz.f127 := Tryz.func127
theorem nt_r13_cure : Tryz.f127.ntmps = 9 := Tryz.ntmps127
def ic_r13_cure : IC := (.seq (.ops [.o 1 (.box (.t 0)), .o 2 (.alloc (.st (.cons (.val (.int .i64 0)) (.cons (.val (.bool false)) (.cons (.val (.int .i64 0)) (.cons (.val (.int .i64 0)) (.cons (.val (.int .i64 0)) (.cons (.val (.int .i64 0)) (.cons (.val (.int .i64 0)) (.cons (.val (.int .i64 0)) (.cons (.val (.int .i64 0)) (.cons (.val (.int .i64 0)) (.cons (.val (.int .i64 0)) (.cons (.val (.int .i64 0)) (.cons (.val (.int .i64 0)) (.cons (.val (.int .i64 0)) (.cons (.val (.int .i64 0)) .nil)))))))))))))))))])
  (.seq (.ops [.o 3 (.fa 11 11 (.t 1)), .o 4 (.ld false 1 (.t 3)), .o 5 (.bin .add (.t 4) (.c (.int .i64 1))), .o 6 (.fa 11 11 (.t 1)), .n (.sto 1 (.t 6) (.t 5))])
  (.seq (.ops [.o 7 (.ld true 15 (.t 1)), .o 8 (.call 126 [(.t 7), (.c (.int .i64 6))]), .n (.sto 15 (.t 2) (.t 8))])
  .ret)))
theorem hc_r13_cure : compF Tryz.prog 9 Tryz.f127 = some (ic_r13_cure, [.c 2 true 15]) := by kernel_rfl

theorem fn_r10_PastDue : Tryz.prog.funcs[r10_PastDue]? = some Tryz.f128 := Tryz.func128
theorem nt_r10_PastDue : Tryz.f128.ntmps = 61 := Tryz.ntmps128
def ic_r10_PastDue : IC := (.seq (.ops [.o 4 (.box (.t 1)), .o 6 (.mv (.c (.int .i64 0)))])
  (.seq (.ops [.o 10 (.mv (.t 0)), .o 11 (.call 111 [(.t 10)]), .o 7 (.mv (.t 11))])
  (.seq (.seq (.ops [.o 12 (.fa 1 1 (.t 4)), .o 13 (.ld false 1 (.t 12)), .o 14 (.bin .leq (.t 13) (.c (.int .i64 0))), .o 15 (.mv (.t 14)), .og 16 15 false (.mv (.t 7)), .og 17 15 false (.len (.t 16)), .og 18 15 false (.bin .eql (.t 17) (.c (.int .i64 0))), .o 19 (.pick (.t 15) (.c (.bool true)) (.t 18))])
  (.cond (.t 19)
  (.seq (.ops [.o 6 (.mv (.c (.int .i64 0)))])
  .ret)
  .skip))
  (.seq (.seq (.ops [.o 20 (.mv (.t 7)), .o 21 (.mv (.t 7)), .o 22 (.len (.t 21)), .o 23 (.bin .sub (.t 22) (.c (.int .i64 1))), .o 24 (.ixs 4 (.t 20) (.t 23)), .o 25 (.fa 0 0 (.t 24)), .o 26 (.ld false 1 (.t 25)), .o 27 (.mv (.t 2)), .o 28 (.bin .lss (.t 26) (.t 27))])
  (.cond (.t 28)
  (.seq (.ops [.o 29 (.fa 1 1 (.t 4)), .o 30 (.ld false 1 (.t 29)), .o 6 (.mv (.t 30))])
  .ret)
  .skip))
  (.seq (.ops [.o 8 (.mv (.c (.int .i64 0)))])
  (.seq (.block 0 (.loop (.seq (.seq (.ops [.o 31 (.mv (.t 8)), .o 32 (.mv (.t 7)), .o 33 (.len (.t 32)), .o 34 (.bin .lss (.t 31) (.t 33)), .o 35 (.mv (.t 34)), .og 36 35 true (.mv (.t 7)), .og 37 35 true (.mv (.t 8)), .og 38 35 true (.ixs 4 (.t 36) (.t 37)), .og 39 35 true (.fa 0 0 (.t 38)), .og 40 35 true (.ld false 1 (.t 39)), .og 41 35 true (.mv (.t 2)), .og 42 35 true (.bin .lss (.t 40) (.t 41)), .o 43 (.pick (.t 35) (.t 42) (.c (.bool false)))])
  (.cond (.t 43)
  .skip
  (.exit 0)))
  (.block 1 (.ops [.o 44 (.mv (.t 8)), .o 45 (.bin .add (.t 44) (.c (.int .i64 1))), .o 8 (.mv (.t 45))])))))
  (.seq (.dops [.o 46 (.mv (.t 7)), .o 47 (.mv (.t 8)), .o 48 (.call 137 [(.t 46), (.t 47)]), .o 49 (.ld true 2 (.t 4)), .o 50 (.call 130 [(.t 49)]), .o 51 (.bin .sub (.t 48) (.t 50)), .o 9 (.mv (.t 51))])
  (.seq (.seq (.ops [.o 52 (.mv (.t 9)), .o 53 (.bin .lss (.t 52) (.c (.int .i64 0)))])
  (.cond (.t 53)
  (.seq (.ops [.o 6 (.mv (.c (.int .i64 0)))])
  .ret)
  .skip))
  (.seq (.seq (.ops [.o 54 (.mv (.t 9)), .o 55 (.fa 1 1 (.t 4)), .o 56 (.ld false 1 (.t 55)), .o 57 (.bin .gtr (.t 54) (.t 56))])
  (.cond (.t 57)
  (.seq (.ops [.o 58 (.fa 1 1 (.t 4)), .o 59 (.ld false 1 (.t 58)), .o 6 (.mv (.t 59))])
  .ret)
  .skip))
  (.seq (.ops [.o 60 (.mv (.t 9)), .o 6 (.mv (.t 60))])
  .ret))))))))))
theorem hc_r10_PastDue : compF Tryz.prog 61 Tryz.f128 = some (ic_r10_PastDue, [.t 6]) := by kernel_rfl

theorem fn_r10_Sound : Tryz.prog.funcs[r10_Sound]? = some Tryz.f129 := Tryz.func129
theorem nt_r10_Sound : Tryz.f129.ntmps = 65 := Tryz.ntmps129
def ic_r10_Sound : IC := (.seq (.ops [.o 2 (.mv (.c (.bool false)))])
  (.seq (.seq (.ops [.o 3 (.mv (.c (.int .i64 0)))])
  (.block 0 (.loop (.seq (.seq (.ops [.o 6 (.mv (.t 3)), .o 7 (.mv (.t 0)), .o 8 (.len (.t 7)), .o 9 (.bin .lss (.t 6) (.t 8))])
  (.cond (.t 9)
  .skip
  (.exit 0)))
  (.seq (.block 1 (.seq (.seq (.ops [.o 12 (.mv (.t 0)), .o 13 (.mv (.t 3)), .o 14 (.ixs 4 (.t 12) (.t 13)), .o 15 (.fa 0 0 (.t 14)), .o 16 (.ld false 1 (.t 15)), .o 17 (.bin .lss (.t 16) (.c (.int .i64 1))), .o 18 (.mv (.t 17)), .og 19 18 false (.mv (.t 0)), .og 20 18 false (.mv (.t 3)), .og 21 18 false (.ixs 4 (.t 19) (.t 20)), .og 22 18 false (.fa 0 0 (.t 21)), .og 23 18 false (.ld false 1 (.t 22)), .og 24 18 false (.bin .gtr (.t 23) (.c (.int .i64 3652059))), .o 25 (.pick (.t 18) (.c (.bool true)) (.t 24)), .o 26 (.mv (.t 25)), .og 27 26 false (.mv (.t 0)), .og 28 26 false (.mv (.t 3)), .og 29 26 false (.ixs 4 (.t 27) (.t 28)), .og 30 26 false (.fa 1 1 (.t 29)), .og 31 26 false (.ld false 1 (.t 30)), .og 32 26 false (.bin .lss (.t 31) (.c (.int .i64 0))), .o 33 (.pick (.t 26) (.c (.bool true)) (.t 32)), .o 34 (.mv (.t 33)), .og 35 34 false (.mv (.t 0)), .og 36 34 false (.mv (.t 3)), .og 37 34 false (.ixs 4 (.t 35) (.t 36)), .og 38 34 false (.fa 2 2 (.t 37)), .og 39 34 false (.ld false 1 (.t 38)), .og 40 34 false (.bin .lss (.t 39) (.c (.int .i64 0))), .o 41 (.pick (.t 34) (.c (.bool true)) (.t 40))])
  (.cond (.t 41)
  (.seq (.ops [.o 2 (.mv (.c (.bool false)))])
  .ret)
  .skip))
  (.seq (.dops [.o 42 (.mv (.t 3)), .o 43 (.bin .gtr (.t 42) (.c (.int .i64 0))), .o 44 (.mv (.t 43)), .og 45 44 true (.mv (.t 0)), .og 46 44 true (.mv (.t 3)), .og 47 44 true (.ixs 4 (.t 45) (.t 46)), .og 48 44 true (.fa 0 0 (.t 47)), .og 49 44 true (.ld false 1 (.t 48)), .og 50 44 true (.mv (.t 0)), .og 51 44 true (.mv (.t 3)), .og 52 44 true (.bin .sub (.t 51) (.c (.int .i64 1))), .og 53 44 true (.ixs 4 (.t 50) (.t 52)), .og 54 44 true (.fa 0 0 (.t 53)), .og 55 44 true (.ld false 1 (.t 54)), .og 56 44 true (.bin .leq (.t 49) (.t 55)), .o 57 (.pick (.t 44) (.t 56) (.c (.bool false)))])
  (.cond (.t 57)
  (.seq (.ops [.o 2 (.mv (.c (.bool false)))])
  .ret)
  .skip))))
  (.ops [.o 10 (.mv (.t 3)), .o 11 (.bin .add (.t 10) (.c (.int .i64 1))), .o 3 (.mv (.t 11))]))))))
  (.seq (.ops [.o 59 (.mv (.t 0)), .o 60 (.call 138 [(.t 59)]), .o 61 (.call 24 [(.t 60)]), .o 58 (.mv (.t 61)), .o 62 (.ext 0 (.t 58)), .o 63 (.ext 1 (.t 58)), .o 4 (.mv (.t 62)), .o 5 (.mv (.t 63))])
  (.seq (.ops [.o 64 (.mv (.t 5)), .o 2 (.mv (.t 64))])
  .ret))))
theorem hc_r10_Sound : compF Tryz.prog 65 Tryz.f129 = some (ic_r10_Sound, [.t 2]) := by kernel_rfl

theorem fn_r10_paid : Tryz.prog.funcs[r10_paid]? = some Tryz.f130 := Tryz.func130
theorem nt_r10_paid : Tryz.f130.ntmps = 8 := Tryz.ntmps130
def ic_r10_paid : IC := (.seq (.ops [.o 1 (.box (.t 0)), .o 2 (.mv (.c (.int .i64 0)))])
  (.seq (.seq (.ops [.o 3 (.fa 0 0 (.t 1)), .o 4 (.ld false 1 (.t 3)), .o 5 (.bin .lss (.t 4) (.c (.int .i64 0)))])
  (.cond (.t 5)
  (.seq (.ops [.o 2 (.mv (.c (.int .i64 0)))])
  .ret)
  .skip))
  (.seq (.ops [.o 6 (.fa 0 0 (.t 1)), .o 7 (.ld false 1 (.t 6)), .o 2 (.mv (.t 7))])
  .ret)))
theorem hc_r10_paid : compF Tryz.prog 8 Tryz.f130 = some (ic_r10_paid, [.t 2]) := by kernel_rfl

theorem fn_r1_Bps : Tryz.prog.funcs[r1_Bps]? = some Tryz.f131 := Tryz.func131
theorem nt_r1_Bps : Tryz.f131.ntmps = 11 := Tryz.ntmps131
def ic_r1_Bps : IC := (.seq (.ops [.o 4 (.mv (.c (.int .i64 0))), .o 5 (.mv (.c (.bool false)))])
  (.seq (.ops [.o 6 (.mv (.t 0)), .o 7 (.mv (.t 1)), .o 8 (.call 139 [(.t 6), (.t 7), (.c (.int .i64 10000))]), .o 9 (.ext 0 (.t 8)), .o 10 (.ext 1 (.t 8)), .o 4 (.mv (.t 9)), .o 5 (.mv (.t 10))])
  .ret))
theorem hc_r1_Bps : compF Tryz.prog 11 Tryz.f131 = some (ic_r1_Bps, [.t 4, .t 5]) := by kernel_rfl

theorem fn_r9_wants : Tryz.prog.funcs[r9_wants]? = some Tryz.f132 := Tryz.func132
theorem nt_r9_wants : Tryz.f132.ntmps = 15 := Tryz.ntmps132
def ic_r9_wants : IC := (.seq (.ops [.o 2 (.box (.t 0)), .o 4 (.mv (.c (.int .i64 0)))])
  (.seq (.seq (.ops [.o 5 (.mv (.t 1)), .o 6 (.bin .eql (.t 5) (.c (.int .i64 3)))])
  (.cond (.t 6)
  (.seq (.ops [.o 7 (.fa 0 0 (.t 2)), .o 8 (.ld false 1 (.t 7)), .o 4 (.mv (.t 8))])
  .ret)
  .skip))
  (.seq (.seq (.ops [.o 9 (.mv (.t 1)), .o 10 (.bin .eql (.t 9) (.c (.int .i64 2)))])
  (.cond (.t 10)
  (.seq (.ops [.o 11 (.fa 1 1 (.t 2)), .o 12 (.ld false 1 (.t 11)), .o 4 (.mv (.t 12))])
  .ret)
  .skip))
  (.seq (.ops [.o 13 (.fa 2 2 (.t 2)), .o 14 (.ld false 1 (.t 13)), .o 4 (.mv (.t 14))])
  .ret))))
theorem hc_r9_wants : compF Tryz.prog 15 Tryz.f132 = some (ic_r9_wants, [.t 4]) := by kernel_rfl

theorem fn_r2_Weekday : Tryz.prog.funcs[r2_Weekday]? = some Tryz.f133 := Tryz.func133
theorem nt_r2_Weekday : Tryz.f133.ntmps = 11 := Tryz.ntmps133
def ic_r2_Weekday : IC := (.seq (.ops [.o 2 (.mv (.c (.int .i64 0))), .o 3 (.mv (.c (.bool false)))])
  (.seq (.seq (.ops [.o 4 (.mv (.t 0)), .o 5 (.call 99 [(.t 4)]), .o 6 (.un .not (.t 5))])
  (.cond (.t 6)
  (.seq (.ops [.o 2 (.mv (.c (.int .i64 0))), .o 3 (.mv (.c (.bool false)))])
  .ret)
  .skip))
  (.seq (.ops [.o 7 (.mv (.t 0)), .o 8 (.bin .sub (.t 7) (.c (.int .i64 1))), .o 9 (.bin .rem (.t 8) (.c (.int .i64 7))), .o 10 (.bin .add (.t 9) (.c (.int .i64 1))), .o 2 (.mv (.t 10)), .o 3 (.mv (.c (.bool true)))])
  .ret)))
theorem hc_r2_Weekday : compF Tryz.prog 11 Tryz.f133 = some (ic_r2_Weekday, [.t 2, .t 3]) := by kernel_rfl

theorem fn_r13_back : Tryz.prog.funcs[r13_back]? = some Tryz.f134 := Tryz.func134
theorem nt_r13_back : Tryz.f134.ntmps = 10 := Tryz.ntmps134
def ic_r13_back : IC := (.seq (.ops [.o 1 (.box (.t 0)), .o 2 (.alloc (.st (.cons (.val (.int .i64 0)) (.cons (.val (.bool false)) (.cons (.val (.int .i64 0)) (.cons (.val (.int .i64 0)) (.cons (.val (.int .i64 0)) (.cons (.val (.int .i64 0)) (.cons (.val (.int .i64 0)) (.cons (.val (.int .i64 0)) (.cons (.val (.int .i64 0)) (.cons (.val (.int .i64 0)) (.cons (.val (.int .i64 0)) (.cons (.val (.int .i64 0)) (.cons (.val (.int .i64 0)) (.cons (.val (.int .i64 0)) (.cons (.val (.int .i64 0)) .nil)))))))))))))))))])
  (.seq (.ops [.o 3 (.ld true 15 (.t 1)), .o 4 (.call 136 [(.t 3)]), .n (.sto 15 (.t 1) (.t 4))])
  (.seq (.ops [.o 5 (.fa 0 0 (.t 1)), .n (.sto 1 (.t 5) (.c (.int .i64 3)))])
  (.seq (.seq (.ops [.o 6 (.fa 1 1 (.t 1)), .o 7 (.ld false 1 (.t 6))])
  (.cond (.t 7)
  (.ops [.o 8 (.fa 0 0 (.t 1)), .n (.sto 1 (.t 8) (.c (.int .i64 5)))])
  .skip))
  (.seq (.ops [.o 9 (.ld true 15 (.t 1)), .n (.sto 15 (.t 2) (.t 9))])
  .ret)))))
theorem hc_r13_back : compF Tryz.prog 10 Tryz.f134 = some (ic_r13_back, [.c 2 true 15]) := by kernel_rfl

theorem fn_r13_quiet : Tryz.prog.funcs[r13_quiet]? = some Tryz.f135 := Tryz.func135
theorem nt_r13_quiet : Tryz.f135.ntmps = 41 := Tryz.ntmps135
def ic_r13_quiet : IC := (.seq (.ops [.o 3 (.box (.t 0)), .o 4 (.box (.t 1)), .o 5 (.box (.t 2)), .o 6 (.alloc (.st (.cons (.val (.int .i64 0)) (.cons (.val (.bool false)) (.cons (.val (.int .i64 0)) (.cons (.val (.int .i64 0)) (.cons (.val (.int .i64 0)) (.cons (.val (.int .i64 0)) (.cons (.val (.int .i64 0)) (.cons (.val (.int .i64 0)) (.cons (.val (.int .i64 0)) (.cons (.val (.int .i64 0)) (.cons (.val (.int .i64 0)) (.cons (.val (.int .i64 0)) (.cons (.val (.int .i64 0)) (.cons (.val (.int .i64 0)) (.cons (.val (.int .i64 0)) .nil))))))))))))))))), .o 7 (.mv (.c (.slice none 0 0)))])
  (.seq (.seq (.ops [.o 8 (.fa 2 2 (.t 5)), .o 9 (.ld false 1 (.t 8)), .o 10 (.bin .eql (.t 9) (.c (.int .i64 0)))])
  (.cond (.t 10)
  (.seq (.seq (.ops [.o 11 (.fa 0 0 (.t 4)), .o 12 (.ld false 1 (.t 11)), .o 13 (.bin .eql (.t 12) (.c (.int .i64 2)))])
  (.cond (.t 13)
  (.ops [.o 14 (.fa 0 0 (.t 4)), .n (.sto 1 (.t 14) (.c (.int .i64 1)))])
  .skip))
  (.seq (.ops [.o 15 (.ld true 15 (.t 4)), .n (.sto 15 (.t 6) (.t 15)), .o 7 (.mv (.c (.slice none 0 0)))])
  .ret))
  .skip))
  (.seq (.seq (.ops [.o 16 (.fa 2 2 (.t 5)), .o 17 (.ld false 1 (.t 16)), .o 18 (.fa 1 1 (.t 3)), .o 19 (.ld false 1 (.t 18)), .o 20 (.bin .leq (.t 17) (.t 19))])
  (.cond (.t 20)
  (.seq (.ops [.o 21 (.fa 0 0 (.t 4)), .n (.sto 1 (.t 21) (.c (.int .i64 2)))])
  (.seq (.ops [.o 22 (.ld true 15 (.t 4)), .n (.sto 15 (.t 6) (.t 22)), .o 7 (.mv (.c (.slice none 0 0)))])
  .ret))
  .skip))
  (.seq (.ops [.o 23 (.fa 2 2 (.t 4)), .o 24 (.ld false 1 (.t 23)), .o 25 (.bin .add (.t 24) (.c (.int .i64 1))), .o 26 (.fa 2 2 (.t 4)), .n (.sto 1 (.t 26) (.t 25))])
  (.seq (.ops [.o 27 (.fa 1 1 (.t 5)), .o 28 (.ld false 1 (.t 27)), .o 29 (.fa 3 3 (.t 4)), .n (.sto 1 (.t 29) (.t 28))])
  (.seq (.ops [.o 30 (.fa 1 1 (.t 5)), .o 31 (.ld false 1 (.t 30)), .o 32 (.fa 3 3 (.t 3)), .o 33 (.ld false 1 (.t 32)), .o 34 (.bin .add (.t 31) (.t 33)), .o 35 (.fa 4 4 (.t 4)), .n (.sto 1 (.t 35) (.t 34))])
  (.seq (.ops [.o 36 (.fa 5 5 (.t 4)), .n (.sto 1 (.t 36) (.c (.int .i64 0)))])
  (.seq (.ops [.o 37 (.fa 13 13 (.t 4)), .n (.sto 1 (.t 37) (.c (.int .i64 0)))])
  (.seq (.ops [.o 38 (.fa 0 0 (.t 4)), .n (.sto 1 (.t 38) (.c (.int .i64 3)))])
  (.seq (.ops [.o 39 (.ld true 15 (.t 4)), .o 40 (.bsl 1 3 (.val (.int .i64 0)) [(0, 0, 1, (.c (.int .i64 2)))]), .n (.sto 15 (.t 6) (.t 39)), .o 7 (.mv (.t 40))])
  .ret))))))))))
theorem hc_r13_quiet : compF Tryz.prog 41 Tryz.f135 = some (ic_r13_quiet, [.c 6 true 15, .t 7]) := by kernel_rfl

theorem fn_r13_cleared : Tryz.prog.funcs[r13_cleared]? = some Tryz.f136 := Tryz.func136
theorem nt_r13_cleared : Tryz.f136.ntmps = 7 := Tryz.ntmps136
def ic_r13_cleared : IC := (.seq (.ops [.o 1 (.box (.t 0)), .o 2 (.alloc (.st (.cons (.val (.int .i64 0)) (.cons (.val (.bool false)) (.cons (.val (.int .i64 0)) (.cons (.val (.int .i64 0)) (.cons (.val (.int .i64 0)) (.cons (.val (.int .i64 0)) (.cons (.val (.int .i64 0)) (.cons (.val (.int .i64 0)) (.cons (.val (.int .i64 0)) (.cons (.val (.int .i64 0)) (.cons (.val (.int .i64 0)) (.cons (.val (.int .i64 0)) (.cons (.val (.int .i64 0)) (.cons (.val (.int .i64 0)) (.cons (.val (.int .i64 0)) .nil)))))))))))))))))])
  (.seq (.ops [.o 3 (.fa 6 6 (.t 1)), .n (.sto 1 (.t 3) (.c (.int .i64 0)))])
  (.seq (.ops [.o 4 (.fa 7 7 (.t 1)), .n (.sto 1 (.t 4) (.c (.int .i64 0)))])
  (.seq (.ops [.o 5 (.fa 8 8 (.t 1)), .n (.sto 1 (.t 5) (.c (.int .i64 0)))])
  (.seq (.ops [.o 6 (.ld true 15 (.t 1)), .n (.sto 15 (.t 2) (.t 6))])
  .ret)))))
theorem hc_r13_cleared : compF Tryz.prog 7 Tryz.f136 = some (ic_r13_cleared, [.c 2 true 15]) := by kernel_rfl

theorem fn_r10_before : Tryz.prog.funcs[r10_before]? = some Tryz.f137 := Tryz.func137
theorem nt_r10_before : Tryz.f137.ntmps = 26 := Tryz.ntmps137
def ic_r10_before : IC := (.seq (.ops [.o 4 (.mv (.c (.int .i64 0)))])
  (.seq (.ops [.o 5 (.mv (.c (.int .i64 0)))])
  (.seq (.seq (.ops [.o 6 (.mv (.c (.int .i64 0)))])
  (.block 0 (.loop (.seq (.seq (.ops [.o 7 (.mv (.t 6)), .o 8 (.mv (.t 1)), .o 9 (.bin .lss (.t 7) (.t 8))])
  (.cond (.t 9)
  .skip
  (.exit 0)))
  (.seq (.block 1 (.dops [.o 12 (.mv (.t 5)), .o 13 (.mv (.t 0)), .o 14 (.mv (.t 6)), .o 15 (.ixs 4 (.t 13) (.t 14)), .o 16 (.fa 1 1 (.t 15)), .o 17 (.ld false 1 (.t 16)), .o 18 (.bin .add (.t 12) (.t 17)), .o 19 (.mv (.t 0)), .o 20 (.mv (.t 6)), .o 21 (.ixs 4 (.t 19) (.t 20)), .o 22 (.fa 2 2 (.t 21)), .o 23 (.ld false 1 (.t 22)), .o 24 (.bin .add (.t 18) (.t 23)), .o 5 (.mv (.t 24))]))
  (.ops [.o 10 (.mv (.t 6)), .o 11 (.bin .add (.t 10) (.c (.int .i64 1))), .o 6 (.mv (.t 11))]))))))
  (.seq (.ops [.o 25 (.mv (.t 5)), .o 4 (.mv (.t 25))])
  .ret))))
theorem hc_r10_before : compF Tryz.prog 26 Tryz.f137 = some (ic_r10_before, [.t 4]) := by kernel_rfl

theorem fn_r10_amounts : Tryz.prog.funcs[r10_amounts]? = some Tryz.f138 := Tryz.func138
theorem nt_r10_amounts : Tryz.f138.ntmps = 25 := Tryz.ntmps138
def ic_r10_amounts : IC := (.seq (.ops [.o 2 (.mv (.c (.slice none 0 0)))])
  (.seq (.ops [.o 3 (.mv (.c (.slice none 0 0)))])
  (.seq (.seq (.ops [.o 4 (.mv (.c (.int .i64 0)))])
  (.block 0 (.loop (.seq (.seq (.ops [.o 5 (.mv (.t 4)), .o 6 (.mv (.t 0)), .o 7 (.len (.t 6)), .o 8 (.bin .lss (.t 5) (.t 7))])
  (.cond (.t 8)
  .skip
  (.exit 0)))
  (.seq (.block 1 (.dops [.o 11 (.mv (.t 3)), .o 12 (.mv (.t 0)), .o 13 (.mv (.t 4)), .o 14 (.ixs 4 (.t 12) (.t 13)), .o 15 (.fa 1 1 (.t 14)), .o 16 (.ld false 1 (.t 15)), .o 17 (.mv (.t 0)), .o 18 (.mv (.t 4)), .o 19 (.ixs 4 (.t 17) (.t 18)), .o 20 (.fa 2 2 (.t 19)), .o 21 (.ld false 1 (.t 20)), .o 22 (.bsl 1 2 (.val (.int .i64 0)) [(0, 0, 1, (.t 16)), (1, 1, 1, (.t 21))]), .o 23 (.app 1 8 2 (.t 11) (.t 22)), .o 3 (.mv (.t 23))]))
  (.ops [.o 9 (.mv (.t 4)), .o 10 (.bin .add (.t 9) (.c (.int .i64 1))), .o 4 (.mv (.t 10))]))))))
  (.seq (.ops [.o 24 (.mv (.t 3)), .o 2 (.mv (.t 24))])
  .ret))))
theorem hc_r10_amounts : compF Tryz.prog 25 Tryz.f138 = some (ic_r10_amounts, [.t 2]) := by kernel_rfl

theorem fn_r1_MulDiv : Tryz.prog.funcs[r1_MulDiv]? = some Tryz.f139 := Tryz.func139
theorem nt_r1_MulDiv : Tryz.f139.ntmps = 61 := Tryz.ntmps139
def ic_r1_MulDiv : IC := (.seq (.ops [.o 6 (.mv (.c (.int .i64 0))), .o 7 (.mv (.c (.bool false)))])
  (.seq (.seq (.ops [.o 13 (.mv (.t 2)), .o 14 (.bin .eql (.t 13) (.c (.int .i64 0)))])
  (.cond (.t 14)
  (.seq (.ops [.o 6 (.mv (.c (.int .i64 0))), .o 7 (.mv (.c (.bool false)))])
  .ret)
  .skip))
  (.seq (.ops [.o 15 (.mv (.t 2)), .o 16 (.call 140 [(.t 15)]), .o 8 (.mv (.t 16))])
  (.seq (.ops [.o 18 (.mv (.t 0)), .o 19 (.call 140 [(.t 18)]), .o 20 (.call 143 [(.t 19)]), .o 21 (.mv (.t 1)), .o 22 (.call 140 [(.t 21)]), .o 23 (.call 143 [(.t 22)]), .o 24 (.call 142 [(.t 20), (.t 23)]), .o 25 (.mv (.t 8)), .o 26 (.call 141 [(.t 24), (.t 25)]), .o 17 (.mv (.t 26)), .o 27 (.ext 0 (.t 17)), .o 28 (.ext 1 (.t 17)), .o 9 (.mv (.t 27)), .o 10 (.mv (.t 28))])
  (.seq (.ops [.o 29 (.mv (.t 8)), .o 30 (.mv (.t 10)), .o 31 (.bin .sub (.t 29) (.t 30)), .o 11 (.mv (.t 31))])
  (.seq (.seq (.ops [.o 32 (.mv (.t 10)), .o 33 (.mv (.t 11)), .o 34 (.bin .gtr (.t 32) (.t 33)), .o 35 (.mv (.t 34)), .og 36 35 false (.mv (.t 10)), .og 37 35 false (.mv (.t 11)), .og 38 35 false (.bin .eql (.t 36) (.t 37)), .og 39 35 false (.mv (.t 38)), .og 40 39 true (.mv (.t 9)), .og 41 39 true (.ixs 1 (.t 40) (.c (.int .i64 0))), .og 42 39 true (.ld false 1 (.t 41)), .og 43 39 true (.bin .eql (.t 42) (.c (.int .i64 1))), .og 44 35 false (.pick (.t 39) (.t 43) (.c (.bool false))), .o 45 (.pick (.t 35) (.c (.bool true)) (.t 44))])
  (.cond (.t 45)
  (.ops [.o 46 (.mv (.t 9)), .o 47 (.call 144 [(.t 46)]), .o 9 (.mv (.t 47))])
  .skip))
  (.seq (.ops [.o 48 (.mv (.t 0)), .o 49 (.bin .lss (.t 48) (.c (.int .i64 0))), .o 50 (.mv (.t 1)), .o 51 (.bin .lss (.t 50) (.c (.int .i64 0))), .o 52 (.eqv true (.t 49) (.t 51)), .o 12 (.mv (.t 52))])
  (.seq (.ops [.o 53 (.mv (.t 12)), .o 54 (.mv (.t 2)), .o 55 (.bin .lss (.t 54) (.c (.int .i64 0))), .o 56 (.eqv true (.t 53) (.t 55)), .o 57 (.mv (.t 9)), .o 58 (.call 145 [(.t 56), (.t 57)]), .o 59 (.ext 0 (.t 58)), .o 60 (.ext 1 (.t 58)), .o 6 (.mv (.t 59)), .o 7 (.mv (.t 60))])
  .ret))))))))
theorem hc_r1_MulDiv : compF Tryz.prog 61 Tryz.f139 = some (ic_r1_MulDiv, [.t 6, .t 7]) := by kernel_rfl

theorem fn_r1_size : Tryz.prog.funcs[r1_size]? = some Tryz.f140 := Tryz.func140
theorem nt_r1_size : Tryz.f140.ntmps = 12 := Tryz.ntmps140
def ic_r1_size : IC := (.seq (.ops [.o 2 (.mv (.c (.int .u64 0)))])
  (.seq (.seq (.ops [.o 3 (.mv (.t 0)), .o 4 (.bin .lss (.t 3) (.c (.int .i64 0)))])
  (.cond (.t 4)
  (.seq (.ops [.o 5 (.mv (.t 0)), .o 6 (.bin .add (.t 5) (.c (.int .i64 1))), .o 7 (.un .neg (.t 6)), .o 8 (.conv .u64 (.t 7)), .o 9 (.bin .add (.t 8) (.c (.int .u64 1))), .o 2 (.mv (.t 9))])
  .ret)
  .skip))
  (.seq (.ops [.o 10 (.mv (.t 0)), .o 11 (.conv .u64 (.t 10)), .o 2 (.mv (.t 11))])
  .ret)))
theorem hc_r1_size : compF Tryz.prog 12 Tryz.f140 = some (ic_r1_size, [.t 2]) := by kernel_rfl

theorem fn_r1_over : Tryz.prog.funcs[r1_over]? = some Tryz.f141 := Tryz.func141
theorem nt_r1_over : Tryz.f141.ntmps = 45 := Tryz.ntmps141
def ic_r1_over : IC := (.seq (.ops [.o 4 (.mv (.c (.slice none 0 0))), .o 5 (.mv (.c (.int .u64 0)))])
  (.seq (.ops [.o 6 (.mv (.c (.slice none 0 0)))])
  (.seq (.seq (.ops [.o 7 (.mv (.c (.int .i64 0)))])
  (.block 0 (.loop (.seq (.seq (.ops [.o 10 (.mv (.t 7)), .o 11 (.mv (.t 0)), .o 12 (.len (.t 11)), .o 13 (.bin .lss (.t 10) (.t 12))])
  (.cond (.t 13)
  .skip
  (.exit 0)))
  (.seq (.block 1 (.ops [.o 16 (.mv (.t 6)), .o 17 (.bsl 1 3 (.val (.int .i64 0)) [(0, 0, 1, (.c (.int .i64 0)))]), .o 18 (.app 1 8 3 (.t 16) (.t 17)), .o 6 (.mv (.t 18))]))
  (.ops [.o 14 (.mv (.t 7)), .o 15 (.bin .add (.t 14) (.c (.int .i64 1))), .o 7 (.mv (.t 15))]))))))
  (.seq (.ops [.o 8 (.mv (.c (.int .u64 0)))])
  (.seq (.seq (.ops [.o 19 (.mv (.t 0)), .o 20 (.len (.t 19)), .o 21 (.bin .sub (.t 20) (.c (.int .i64 1))), .o 9 (.mv (.t 21))])
  (.block 2 (.loop (.seq (.seq (.ops [.o 22 (.mv (.t 9)), .o 23 (.bin .geq (.t 22) (.c (.int .i64 0)))])
  (.cond (.t 23)
  .skip
  (.exit 2)))
  (.seq (.block 3 (.seq (.ops [.o 26 (.mv (.t 8)), .o 27 (.bin .mul (.c (.int .u64 2)) (.t 26)), .o 28 (.mv (.t 0)), .o 29 (.mv (.t 9)), .o 30 (.ixs 1 (.t 28) (.t 29)), .o 31 (.ld false 1 (.t 30)), .o 32 (.conv .u64 (.t 31)), .o 33 (.bin .add (.t 27) (.t 32)), .o 8 (.mv (.t 33))])
  (.seq (.ops [.o 34 (.mv (.t 8)), .o 35 (.mv (.t 1)), .o 36 (.bin .geq (.t 34) (.t 35))])
  (.cond (.t 36)
  (.seq (.ops [.o 37 (.mv (.t 8)), .o 38 (.mv (.t 1)), .o 39 (.bin .sub (.t 37) (.t 38)), .o 8 (.mv (.t 39))])
  (.ops [.o 40 (.mv (.t 6)), .o 41 (.mv (.t 9)), .o 42 (.ixs 1 (.t 40) (.t 41)), .n (.sto 1 (.t 42) (.c (.int .i64 1)))]))
  .skip))))
  (.ops [.o 24 (.mv (.t 9)), .o 25 (.bin .sub (.t 24) (.c (.int .i64 1))), .o 9 (.mv (.t 25))]))))))
  (.seq (.ops [.o 43 (.mv (.t 6)), .o 44 (.mv (.t 8)), .o 4 (.mv (.t 43)), .o 5 (.mv (.t 44))])
  .ret))))))
theorem hc_r1_over : compF Tryz.prog 45 Tryz.f141 = some (ic_r1_over, [.t 4, .t 5]) := by kernel_rfl

theorem fn_r1_times : Tryz.prog.funcs[r1_times]? = some Tryz.f142 := Tryz.func142
theorem nt_r1_times : Tryz.f142.ntmps = 70 := Tryz.ntmps142
def ic_r1_times : IC := (.seq (.ops [.o 4 (.mv (.c (.slice none 0 0)))])
  (.seq (.ops [.o 5 (.mv (.c (.slice none 0 0)))])
  (.seq (.seq (.ops [.o 6 (.mv (.c (.int .i64 0)))])
  (.block 0 (.loop (.seq (.seq (.ops [.o 12 (.mv (.t 6)), .o 13 (.bin .lss (.t 12) (.c (.int .i64 128)))])
  (.cond (.t 13)
  .skip
  (.exit 0)))
  (.seq (.block 1 (.ops [.o 16 (.mv (.t 5)), .o 17 (.bsl 1 3 (.val (.int .i64 0)) [(0, 0, 1, (.c (.int .i64 0)))]), .o 18 (.app 1 8 3 (.t 16) (.t 17)), .o 5 (.mv (.t 18))]))
  (.ops [.o 14 (.mv (.t 6)), .o 15 (.bin .add (.t 14) (.c (.int .i64 1))), .o 6 (.mv (.t 15))]))))))
  (.seq (.seq (.ops [.o 7 (.mv (.c (.int .i64 0)))])
  (.block 2 (.loop (.seq (.seq (.ops [.o 19 (.mv (.t 7)), .o 20 (.mv (.t 0)), .o 21 (.len (.t 20)), .o 22 (.bin .lss (.t 19) (.t 21))])
  (.cond (.t 22)
  .skip
  (.exit 2)))
  (.seq (.block 3 (.seq (.ops [.o 8 (.mv (.c (.int .i64 0)))])
  (.block 4 (.loop (.seq (.seq (.ops [.o 25 (.mv (.t 8)), .o 26 (.mv (.t 1)), .o 27 (.len (.t 26)), .o 28 (.bin .lss (.t 25) (.t 27))])
  (.cond (.t 28)
  .skip
  (.exit 4)))
  (.seq (.block 5 (.dops [.o 31 (.mv (.t 5)), .o 32 (.mv (.t 7)), .o 33 (.mv (.t 8)), .o 34 (.bin .add (.t 32) (.t 33)), .o 35 (.mv (.t 5)), .o 36 (.mv (.t 7)), .o 37 (.mv (.t 8)), .o 38 (.bin .add (.t 36) (.t 37)), .o 39 (.ixs 1 (.t 35) (.t 38)), .o 40 (.ld false 1 (.t 39)), .o 41 (.mv (.t 0)), .o 42 (.mv (.t 7)), .o 43 (.ixs 1 (.t 41) (.t 42)), .o 44 (.ld false 1 (.t 43)), .o 45 (.mv (.t 1)), .o 46 (.mv (.t 8)), .o 47 (.ixs 1 (.t 45) (.t 46)), .o 48 (.ld false 1 (.t 47)), .o 49 (.bin .mul (.t 44) (.t 48)), .o 50 (.bin .add (.t 40) (.t 49)), .o 51 (.ixs 1 (.t 31) (.t 34)), .n (.sto 1 (.t 51) (.t 50))]))
  (.ops [.o 29 (.mv (.t 8)), .o 30 (.bin .add (.t 29) (.c (.int .i64 1))), .o 8 (.mv (.t 30))])))))))
  (.ops [.o 23 (.mv (.t 7)), .o 24 (.bin .add (.t 23) (.c (.int .i64 1))), .o 7 (.mv (.t 24))]))))))
  (.seq (.ops [.o 9 (.mv (.c (.int .i64 0)))])
  (.seq (.seq (.ops [.o 10 (.mv (.c (.int .i64 0)))])
  (.block 6 (.loop (.seq (.seq (.ops [.o 52 (.mv (.t 10)), .o 53 (.bin .lss (.t 52) (.c (.int .i64 128)))])
  (.cond (.t 53)
  .skip
  (.exit 6)))
  (.seq (.block 7 (.seq (.ops [.o 56 (.mv (.t 5)), .o 57 (.mv (.t 10)), .o 58 (.ixs 1 (.t 56) (.t 57)), .o 59 (.ld false 1 (.t 58)), .o 60 (.mv (.t 9)), .o 61 (.bin .add (.t 59) (.t 60)), .o 11 (.mv (.t 61))])
  (.seq (.ops [.o 62 (.mv (.t 5)), .o 63 (.mv (.t 10)), .o 64 (.mv (.t 11)), .o 65 (.bin .rem (.t 64) (.c (.int .i64 2))), .o 66 (.ixs 1 (.t 62) (.t 63)), .n (.sto 1 (.t 66) (.t 65))])
  (.ops [.o 67 (.mv (.t 11)), .o 68 (.bin .quo (.t 67) (.c (.int .i64 2))), .o 9 (.mv (.t 68))]))))
  (.ops [.o 54 (.mv (.t 10)), .o 55 (.bin .add (.t 54) (.c (.int .i64 1))), .o 10 (.mv (.t 55))]))))))
  (.seq (.ops [.o 69 (.mv (.t 5)), .o 4 (.mv (.t 69))])
  .ret)))))))
theorem hc_r1_times : compF Tryz.prog 70 Tryz.f142 = some (ic_r1_times, [.t 4]) := by kernel_rfl

theorem fn_r1_digits : Tryz.prog.funcs[r1_digits]? = some Tryz.f143 := Tryz.func143
theorem nt_r1_digits : Tryz.f143.ntmps = 18 := Tryz.ntmps143
def ic_r1_digits : IC := (.seq (.ops [.o 2 (.mv (.c (.slice none 0 0)))])
  (.seq (.ops [.o 3 (.mv (.c (.slice none 0 0)))])
  (.seq (.seq (.ops [.o 4 (.mv (.c (.int .i64 0)))])
  (.block 0 (.loop (.seq (.seq (.ops [.o 5 (.mv (.t 4)), .o 6 (.bin .lss (.t 5) (.c (.int .i64 64)))])
  (.cond (.t 6)
  .skip
  (.exit 0)))
  (.seq (.block 1 (.seq (.ops [.o 9 (.mv (.t 3)), .o 10 (.mv (.t 0)), .o 11 (.bin .rem (.t 10) (.c (.int .u64 2))), .o 12 (.conv .i64 (.t 11)), .o 13 (.bsl 1 3 (.val (.int .i64 0)) [(0, 0, 1, (.t 12))]), .o 14 (.app 1 8 3 (.t 9) (.t 13)), .o 3 (.mv (.t 14))])
  (.ops [.o 15 (.mv (.t 0)), .o 16 (.bin .quo (.t 15) (.c (.int .u64 2))), .o 0 (.mv (.t 16))])))
  (.ops [.o 7 (.mv (.t 4)), .o 8 (.bin .add (.t 7) (.c (.int .i64 1))), .o 4 (.mv (.t 8))]))))))
  (.seq (.ops [.o 17 (.mv (.t 3)), .o 2 (.mv (.t 17))])
  .ret))))
theorem hc_r1_digits : compF Tryz.prog 18 Tryz.f143 = some (ic_r1_digits, [.t 2]) := by kernel_rfl

theorem fn_r1_more : Tryz.prog.funcs[r1_more]? = some Tryz.f144 := Tryz.func144
theorem nt_r1_more : Tryz.f144.ntmps = 27 := Tryz.ntmps144
def ic_r1_more : IC := (.seq (.ops [.o 2 (.mv (.c (.slice none 0 0)))])
  (.seq (.ops [.o 3 (.mv (.c (.slice none 0 0)))])
  (.seq (.ops [.o 4 (.mv (.c (.int .i64 1)))])
  (.seq (.seq (.ops [.o 5 (.mv (.c (.int .i64 0)))])
  (.block 0 (.loop (.seq (.seq (.ops [.o 7 (.mv (.t 5)), .o 8 (.mv (.t 0)), .o 9 (.len (.t 8)), .o 10 (.bin .lss (.t 7) (.t 9))])
  (.cond (.t 10)
  .skip
  (.exit 0)))
  (.seq (.block 1 (.seq (.ops [.o 13 (.mv (.t 0)), .o 14 (.mv (.t 5)), .o 15 (.ixs 1 (.t 13) (.t 14)), .o 16 (.ld false 1 (.t 15)), .o 17 (.mv (.t 4)), .o 18 (.bin .add (.t 16) (.t 17)), .o 6 (.mv (.t 18))])
  (.seq (.ops [.o 19 (.mv (.t 3)), .o 20 (.mv (.t 6)), .o 21 (.bin .rem (.t 20) (.c (.int .i64 2))), .o 22 (.bsl 1 3 (.val (.int .i64 0)) [(0, 0, 1, (.t 21))]), .o 23 (.app 1 8 3 (.t 19) (.t 22)), .o 3 (.mv (.t 23))])
  (.ops [.o 24 (.mv (.t 6)), .o 25 (.bin .quo (.t 24) (.c (.int .i64 2))), .o 4 (.mv (.t 25))]))))
  (.ops [.o 11 (.mv (.t 5)), .o 12 (.bin .add (.t 11) (.c (.int .i64 1))), .o 5 (.mv (.t 12))]))))))
  (.seq (.ops [.o 26 (.mv (.t 3)), .o 2 (.mv (.t 26))])
  .ret)))))
theorem hc_r1_more : compF Tryz.prog 27 Tryz.f144 = some (ic_r1_more, [.t 2]) := by kernel_rfl

theorem fn_r1_signed : Tryz.prog.funcs[r1_signed]? = some Tryz.f145 := Tryz.func145
theorem nt_r1_signed : Tryz.f145.ntmps = 47 := Tryz.ntmps145
def ic_r1_signed : IC := (.seq (.ops [.o 4 (.mv (.c (.int .i64 0))), .o 5 (.mv (.c (.bool false)))])
  (.seq (.seq (.ops [.o 6 (.mv (.c (.int .i64 64)))])
  (.block 0 (.loop (.seq (.seq (.ops [.o 9 (.mv (.t 6)), .o 10 (.mv (.t 1)), .o 11 (.len (.t 10)), .o 12 (.bin .lss (.t 9) (.t 11))])
  (.cond (.t 12)
  .skip
  (.exit 0)))
  (.seq (.block 1 (.seq (.ops [.o 15 (.mv (.t 1)), .o 16 (.mv (.t 6)), .o 17 (.ixs 1 (.t 15) (.t 16)), .o 18 (.ld false 1 (.t 17)), .o 19 (.bin .neq (.t 18) (.c (.int .i64 0)))])
  (.cond (.t 19)
  (.seq (.ops [.o 4 (.mv (.c (.int .i64 0))), .o 5 (.mv (.c (.bool false)))])
  .ret)
  .skip)))
  (.ops [.o 13 (.mv (.t 6)), .o 14 (.bin .add (.t 13) (.c (.int .i64 1))), .o 6 (.mv (.t 14))]))))))
  (.seq (.ops [.o 7 (.mv (.c (.int .u64 0)))])
  (.seq (.seq (.ops [.o 8 (.mv (.c (.int .i64 63)))])
  (.block 2 (.loop (.seq (.seq (.ops [.o 20 (.mv (.t 8)), .o 21 (.bin .geq (.t 20) (.c (.int .i64 0)))])
  (.cond (.t 21)
  .skip
  (.exit 2)))
  (.seq (.block 3 (.ops [.o 24 (.mv (.t 7)), .o 25 (.bin .mul (.c (.int .u64 2)) (.t 24)), .o 26 (.mv (.t 1)), .o 27 (.mv (.t 8)), .o 28 (.ixs 1 (.t 26) (.t 27)), .o 29 (.ld false 1 (.t 28)), .o 30 (.conv .u64 (.t 29)), .o 31 (.bin .add (.t 25) (.t 30)), .o 7 (.mv (.t 31))]))
  (.ops [.o 22 (.mv (.t 8)), .o 23 (.bin .sub (.t 22) (.c (.int .i64 1))), .o 8 (.mv (.t 23))]))))))
  (.seq (.seq (.ops [.o 32 (.mv (.t 0)), .o 33 (.un .not (.t 32))])
  (.cond (.t 33)
  (.seq (.seq (.ops [.o 34 (.mv (.t 7)), .o 35 (.bin .gtr (.t 34) (.c (.int .u64 9223372036854775807)))])
  (.cond (.t 35)
  (.seq (.ops [.o 4 (.mv (.c (.int .i64 0))), .o 5 (.mv (.c (.bool false)))])
  .ret)
  .skip))
  (.seq (.ops [.o 36 (.mv (.t 7)), .o 37 (.conv .i64 (.t 36)), .o 4 (.mv (.t 37)), .o 5 (.mv (.c (.bool true)))])
  .ret))
  .skip))
  (.seq (.seq (.ops [.o 38 (.mv (.t 7)), .o 39 (.bin .gtr (.t 38) (.c (.int .u64 9223372036854775808)))])
  (.cond (.t 39)
  (.seq (.ops [.o 4 (.mv (.c (.int .i64 0))), .o 5 (.mv (.c (.bool false)))])
  .ret)
  .skip))
  (.seq (.seq (.ops [.o 40 (.mv (.t 7)), .o 41 (.bin .eql (.t 40) (.c (.int .u64 0)))])
  (.cond (.t 41)
  (.seq (.ops [.o 4 (.mv (.c (.int .i64 0))), .o 5 (.mv (.c (.bool true)))])
  .ret)
  .skip))
  (.seq (.ops [.o 42 (.mv (.t 7)), .o 43 (.bin .sub (.t 42) (.c (.int .u64 1))), .o 44 (.conv .i64 (.t 43)), .o 45 (.un .neg (.t 44)), .o 46 (.bin .sub (.t 45) (.c (.int .i64 1))), .o 4 (.mv (.t 46)), .o 5 (.mv (.c (.bool true)))])
  .ret))))))))
theorem hc_r1_signed : compF Tryz.prog 47 Tryz.f145 = some (ic_r1_signed, [.t 4, .t 5]) := by kernel_rfl

end Go.Proofs.YtjkmmcbfcglkdaaGreat
