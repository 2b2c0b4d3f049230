/- The given functions as the walk reads them: each constant is what the program's text comes to. No condition. -/
import Derived.Test.YtjkmmcbfcglkdaaArN
import Derived.Test.YtjkmmcbfcglkdaaProg
import Derived.KernelRfl
namespace Go.Proofs.Ytjkmmcbfcglkdaa
open Go Ar
set_option linter.unusedVariables false
set_option maxRecDepth 100000

/-- arrears/arrearslaw22.StatementUptos -/
def ic3 : IC := (.seq (.ops [.o 4 (.mv (.c (.bool false)))])
  (.seq (.seq (.ops [.o 10 (.mv (.t 0)), .o 11 (.len (.t 10)), .o 12 (.bin .gtr (.t 11) (.c (.int .i64 4000)))])
  (.cond (.t 12)
  (.seq (.ops [.o 4 (.mv (.c (.bool true)))])
  .ret)
  .skip))
  (.seq (.ops [.o 13 (.mv (.t 0)), .o 14 (.call 9 [(.t 13)]), .o 5 (.mv (.t 14))])
  (.seq (.ops [.o 16 (.mv (.t 5)), .o 17 (.mv (.t 0)), .o 18 (.len (.t 17)), .o 19 (.slc 14 (.t 16) .no (.t 18)), .o 20 (.mv (.t 1)), .o 21 (.call 10 [(.t 19), (.t 20)]), .o 15 (.mv (.t 21)), .o 22 (.ext 0 (.t 15)), .o 23 (.ext 1 (.t 15)), .o 6 (.alloc (.st (.cons (.arr 12 1 fun _ => (.val (.int .i64 0))) .nil))), .n (.sto 12 (.t 6) (.t 22)), .o 7 (.mv (.t 23))])
  (.seq (.ops [.o 25 (.mv (.t 0)), .o 26 (.mv (.t 1)), .o 27 (.call 11 [(.t 25), (.t 26)]), .o 24 (.mv (.t 27)), .o 28 (.ext 0 (.t 24)), .o 29 (.ext 1 (.t 24)), .o 8 (.alloc (.st (.cons (.arr 12 1 fun _ => (.val (.int .i64 0))) .nil))), .n (.sto 12 (.t 8) (.t 28)), .o 9 (.mv (.t 29))])
  (.seq (.ops [.o 30 (.ld true 12 (.t 6)), .o 31 (.ld true 12 (.t 8)), .o 32 (.eqs false (.st (.cons (.arr 12 1 .int) .nil)) (.t 30) (.t 31)), .o 33 (.mv (.t 32)), .og 34 33 true (.mv (.t 7)), .og 35 33 true (.mv (.t 9)), .og 36 33 true (.eqv false (.t 34) (.t 35)), .o 37 (.pick (.t 33) (.t 36) (.c (.bool false))), .o 38 (.mv (.t 37)), .og 39 38 true (.mv (.t 5)), .og 40 38 true (.mv (.t 0)), .og 41 38 true (.call 9 [(.t 40)]), .og 42 38 true (.call 12 [(.t 39), (.t 41)]), .o 43 (.pick (.t 38) (.t 42) (.c (.bool false))), .o 4 (.mv (.t 43))])
  .ret))))))
theorem hc3 : compF Try.prog 44 Try.f3 = some (ic3, [.t 4]) := by kernel_rfl

/-- arrears/arrearslaw22.copied -/
def ic9 : IC := (.seq (.ops [.o 2 (.mv (.c (.slice none 0 0)))])
  (.seq (.ops [.o 3 (.mv (.c (.slice none 0 0)))])
  (.seq (.seq (.ops [.o 4 (.mv (.c (.int .i64 0)))])
  (.block 0 (.loop (.seq (.seq (.ops [.o 5 (.mv (.t 4)), .o 6 (.mv (.t 0)), .o 7 (.len (.t 6)), .o 8 (.bin .lss (.t 5) (.t 7))])
  (.cond (.t 8)
  .skip
  (.exit 0)))
  (.seq (.block 1 (.ops [.o 11 (.mv (.t 3)), .o 12 (.mv (.t 0)), .o 13 (.mv (.t 4)), .o 14 (.ixs 14 (.t 12) (.t 13)), .o 15 (.ld true 14 (.t 14)), .o 16 (.bsl 14 43 (.st (.cons (.val (.int .i64 0)) (.cons (.val (.int .i64 0)) (.cons (.st (.cons (.arr 12 1 fun _ => (.val (.int .i64 0))) .nil)) .nil)))) [(0, 0, 14, (.t 15))]), .o 17 (.app 14 112 43 (.t 11) (.t 16)), .o 3 (.mv (.t 17))]))
  (.ops [.o 9 (.mv (.t 4)), .o 10 (.bin .add (.t 9) (.c (.int .i64 1))), .o 4 (.mv (.t 10))]))))))
  (.seq (.ops [.o 18 (.mv (.t 3)), .o 19 (.build (.st (.cons (.val (.int .i64 0)) (.cons (.val (.int .i64 0)) (.cons (.st (.cons (.arr 12 1 fun _ => (.val (.int .i64 0))) .nil)) .nil)))) [(0, 0, 1, (.c (.int .i64 (-7)))), (1, 1, 1, (.c (.int .i64 (-7))))]), .o 20 (.bsl 14 43 (.st (.cons (.val (.int .i64 0)) (.cons (.val (.int .i64 0)) (.cons (.st (.cons (.arr 12 1 fun _ => (.val (.int .i64 0))) .nil)) .nil)))) [(0, 0, 14, (.t 19))]), .o 21 (.app 14 112 43 (.t 18) (.t 20)), .o 2 (.mv (.t 21))])
  .ret))))
theorem hc9 : compF Try.prog 22 Try.f9 = some (ic9, [.t 2]) := by kernel_rfl

/-- arrears/statement.Upto -/
def ic10 : IC := (.seq (.ops [.o 4 (.alloc (.st (.cons (.arr 12 1 fun _ => (.val (.int .i64 0))) .nil))), .o 5 (.mv (.c (.bool false)))])
  (.seq (.ops [.o 6 (.alloc (.arr 12 2 fun _ => (.st (.cons (.val (.int .u64 0)) (.cons (.val (.int .u64 0)) .nil)))))])
  (.seq (.seq (.ops [.o 16 (.mv (.t 0)), .o 17 (.len (.t 16)), .o 18 (.mv (.c (.int .i64 0)))])
  (.block 0 (.loop (.seq (.ops [.o 19 (.bin .lss (.t 18) (.t 17))])
  (.seq (.cond (.t 19)
  .skip
  (.exit 0))
  (.seq (.block 1 (.seq (.ops [.o 20 (.ixs 14 (.t 16) (.t 18)), .o 21 (.ld true 14 (.t 20)), .o 8 (.alloc (.st (.cons (.val (.int .i64 0)) (.cons (.val (.int .i64 0)) (.cons (.st (.cons (.arr 12 1 fun _ => (.val (.int .i64 0))) .nil)) .nil))))), .n (.sto 14 (.t 8) (.t 21))])
  (.seq (.seq (.ops [.o 22 (.fa 0 0 (.t 8)), .o 23 (.ld false 1 (.t 22)), .o 24 (.mv (.t 1)), .o 25 (.bin .gtr (.t 23) (.t 24))])
  (.cond (.t 25)
  (.exit 1)
  .skip))
  (.seq (.ops [.o 26 (.fa 2 2 (.t 8)), .o 27 (.fa 0 0 (.t 26)), .o 28 (.ld true 12 (.t 27)), .o 29 (.mv (.c (.int .i64 0)))])
  (.block 2 (.loop (.seq (.ops [.o 30 (.bin .lss (.t 29) (.c (.int .i64 12)))])
  (.seq (.cond (.t 30)
  .skip
  (.exit 2))
  (.seq (.block 3 (.seq (.ops [.o 31 (.mv (.t 29)), .o 32 (.ix false 12 1 (.t 28) (.t 29)), .o 9 (.mv (.t 31)), .o 10 (.mv (.t 32))])
  (.ops [.o 33 (.mv (.t 9)), .o 34 (.mv (.t 9)), .o 35 (.ixa 12 2 (.t 6) (.t 34)), .o 36 (.ld true 2 (.t 35)), .o 37 (.mv (.t 10)), .o 38 (.call 36 [(.t 36), (.t 37)]), .o 39 (.ixa 12 2 (.t 6) (.t 33)), .n (.sto 2 (.t 39) (.t 38))])))
  (.ops [.o 40 (.bin .add (.t 29) (.c (.int .i64 1))), .o 29 (.mv (.t 40))]))))))))))
  (.ops [.o 41 (.bin .add (.t 18) (.c (.int .i64 1))), .o 18 (.mv (.t 41))])))))))
  (.seq (.ops [.o 11 (.alloc (.st (.cons (.arr 12 1 fun _ => (.val (.int .i64 0))) .nil)))])
  (.seq (.seq (.ops [.o 42 (.ld true 24 (.t 6)), .o 43 (.mv (.c (.int .i64 0)))])
  (.block 4 (.loop (.seq (.ops [.o 44 (.bin .lss (.t 43) (.c (.int .i64 12)))])
  (.seq (.cond (.t 44)
  .skip
  (.exit 4))
  (.seq (.block 5 (.seq (.ops [.o 45 (.mv (.t 43)), .o 46 (.ix true 12 2 (.t 42) (.t 43)), .o 13 (.alloc (.st (.cons (.val (.int .u64 0)) (.cons (.val (.int .u64 0)) .nil)))), .o 12 (.mv (.t 45)), .n (.sto 2 (.t 13) (.t 46))])
  (.seq (.ops [.o 48 (.ld true 2 (.t 13)), .o 49 (.call 37 [(.t 48)]), .o 47 (.mv (.t 49)), .o 50 (.ext 0 (.t 47)), .o 51 (.ext 1 (.t 47)), .o 14 (.mv (.t 50)), .o 15 (.mv (.t 51))])
  (.seq (.seq (.ops [.o 52 (.mv (.t 15)), .o 53 (.un .not (.t 52))])
  (.cond (.t 53)
  (.seq (.ops [.o 54 (.build (.st (.cons (.arr 12 1 fun _ => (.val (.int .i64 0))) .nil)) []), .n (.sto 12 (.t 4) (.t 54)), .o 5 (.mv (.c (.bool false)))])
  .ret)
  .skip))
  (.ops [.o 55 (.mv (.t 12)), .o 56 (.mv (.t 14)), .o 57 (.fa 0 0 (.t 11)), .o 58 (.ixa 12 1 (.t 57) (.t 55)), .n (.sto 1 (.t 58) (.t 56))])))))
  (.ops [.o 59 (.bin .add (.t 43) (.c (.int .i64 1))), .o 43 (.mv (.t 59))])))))))
  (.seq (.ops [.o 60 (.ld true 12 (.t 11)), .n (.sto 12 (.t 4) (.t 60)), .o 5 (.mv (.c (.bool true)))])
  .ret))))))
theorem hc10 : compF Try.prog 61 Try.f10 = some (ic10, [.c 4 true 12, .t 5]) := by kernel_rfl

/-- arrears/arrearsref22.Upto -/
def ic11 : IC := (.seq (.ops [.o 4 (.alloc (.st (.cons (.arr 12 1 fun _ => (.val (.int .i64 0))) .nil))), .o 5 (.mv (.c (.bool false)))])
  (.seq (.ops [.o 6 (.alloc (.st (.cons (.arr 12 1 fun _ => (.val (.int .i64 0))) .nil)))])
  (.seq (.seq (.ops [.o 7 (.mv (.c (.int .i64 0)))])
  (.block 0 (.loop (.seq (.seq (.ops [.o 13 (.mv (.t 7)), .o 14 (.bin .lss (.t 13) (.c (.int .i64 12)))])
  (.cond (.t 14)
  .skip
  (.exit 0)))
  (.seq (.block 1 (.seq (.ops [.o 8 (.mv (.c (.slice none 0 0)))])
  (.seq (.seq (.ops [.o 9 (.mv (.c (.int .i64 0)))])
  (.block 2 (.loop (.seq (.seq (.ops [.o 17 (.mv (.t 9)), .o 18 (.mv (.t 0)), .o 19 (.len (.t 18)), .o 20 (.bin .lss (.t 17) (.t 19))])
  (.cond (.t 20)
  .skip
  (.exit 2)))
  (.seq (.block 3 (.seq (.ops [.o 23 (.mv (.t 0)), .o 24 (.mv (.t 9)), .o 25 (.ixs 14 (.t 23) (.t 24)), .o 26 (.fa 0 0 (.t 25)), .o 27 (.ld false 1 (.t 26)), .o 28 (.mv (.t 1)), .o 29 (.bin .leq (.t 27) (.t 28))])
  (.cond (.t 29)
  (.ops [.o 30 (.mv (.t 8)), .o 31 (.mv (.t 0)), .o 32 (.mv (.t 9)), .o 33 (.mv (.t 7)), .o 34 (.ixs 14 (.t 31) (.t 32)), .o 35 (.fa 2 2 (.t 34)), .o 36 (.fa 0 0 (.t 35)), .o 37 (.ixa 12 1 (.t 36) (.t 33)), .o 38 (.ld false 1 (.t 37)), .o 39 (.bsl 1 2 (.val (.int .i64 0)) [(0, 0, 1, (.t 38))]), .o 40 (.app 1 8 2 (.t 30) (.t 39)), .o 8 (.mv (.t 40))])
  .skip)))
  (.ops [.o 21 (.mv (.t 9)), .o 22 (.bin .add (.t 21) (.c (.int .i64 1))), .o 9 (.mv (.t 22))]))))))
  (.seq (.ops [.o 42 (.mv (.t 8)), .o 43 (.call 38 [(.t 42)]), .o 41 (.mv (.t 43)), .o 44 (.ext 0 (.t 41)), .o 45 (.ext 1 (.t 41)), .o 10 (.mv (.t 44)), .o 11 (.mv (.t 45))])
  (.seq (.seq (.ops [.o 46 (.mv (.t 11)), .o 47 (.un .not (.t 46))])
  (.cond (.t 47)
  (.seq (.ops [.o 12 (.alloc (.st (.cons (.arr 12 1 fun _ => (.val (.int .i64 0))) .nil)))])
  (.seq (.ops [.o 48 (.ld true 12 (.t 12)), .n (.sto 12 (.t 4) (.t 48)), .o 5 (.mv (.c (.bool false)))])
  .ret))
  .skip))
  (.ops [.o 49 (.mv (.t 7)), .o 50 (.mv (.t 10)), .o 51 (.fa 0 0 (.t 6)), .o 52 (.ixa 12 1 (.t 51) (.t 49)), .n (.sto 1 (.t 52) (.t 50))]))))))
  (.ops [.o 15 (.mv (.t 7)), .o 16 (.bin .add (.t 15) (.c (.int .i64 1))), .o 7 (.mv (.t 16))]))))))
  (.seq (.ops [.o 53 (.ld true 12 (.t 6)), .n (.sto 12 (.t 4) (.t 53)), .o 5 (.mv (.c (.bool true)))])
  .ret))))
theorem hc11 : compF Try.prog 54 Try.f11 = some (ic11, [.c 4 true 12, .t 5]) := by kernel_rfl

/-- arrears/arrearslaw22.sameMoves -/
def ic12 : IC := (.seq (.ops [.o 4 (.mv (.c (.bool false)))])
  (.seq (.seq (.ops [.o 6 (.mv (.t 0)), .o 7 (.len (.t 6)), .o 8 (.mv (.t 1)), .o 9 (.len (.t 8)), .o 10 (.bin .neq (.t 7) (.t 9))])
  (.cond (.t 10)
  (.seq (.ops [.o 4 (.mv (.c (.bool false)))])
  .ret)
  .skip))
  (.seq (.seq (.ops [.o 5 (.mv (.c (.int .i64 0)))])
  (.block 0 (.loop (.seq (.seq (.ops [.o 11 (.mv (.t 5)), .o 12 (.mv (.t 0)), .o 13 (.len (.t 12)), .o 14 (.bin .lss (.t 11) (.t 13))])
  (.cond (.t 14)
  .skip
  (.exit 0)))
  (.seq (.block 1 (.seq (.dops [.o 17 (.mv (.t 0)), .o 18 (.mv (.t 5)), .o 19 (.ixs 14 (.t 17) (.t 18)), .o 20 (.ld true 14 (.t 19)), .o 21 (.mv (.t 1)), .o 22 (.mv (.t 5)), .o 23 (.ixs 14 (.t 21) (.t 22)), .o 24 (.ld true 14 (.t 23)), .o 25 (.eqs true (.st (.cons .int (.cons .int (.cons (.st (.cons (.arr 12 1 .int) .nil)) .nil)))) (.t 20) (.t 24))])
  (.cond (.t 25)
  (.seq (.ops [.o 4 (.mv (.c (.bool false)))])
  .ret)
  .skip)))
  (.ops [.o 15 (.mv (.t 5)), .o 16 (.bin .add (.t 15) (.c (.int .i64 1))), .o 5 (.mv (.t 16))]))))))
  (.seq (.ops [.o 4 (.mv (.c (.bool true)))])
  .ret))))
theorem hc12 : compF Try.prog 26 Try.f12 = some (ic12, [.t 4]) := by kernel_rfl

/-- (arrears/statement.wide).plus -/
def ic36 : IC := (.seq (.ops [.o 2 (.box (.t 0)), .o 4 (.alloc (.st (.cons (.val (.int .u64 0)) (.cons (.val (.int .u64 0)) .nil))))])
  (.seq (.ops [.o 10 (.fa 1 1 (.t 2)), .o 11 (.ld false 1 (.t 10)), .o 12 (.mv (.t 1)), .o 13 (.conv .u64 (.t 12)), .o 14 (.xcall 51 [(.t 11), (.t 13), (.c (.int .u64 0))]), .o 9 (.mv (.t 14)), .o 15 (.ext 0 (.t 9)), .o 16 (.ext 1 (.t 9)), .o 5 (.mv (.t 15)), .o 6 (.mv (.t 16))])
  (.seq (.ops [.o 18 (.fa 0 0 (.t 2)), .o 19 (.ld false 1 (.t 18)), .o 20 (.mv (.t 1)), .o 21 (.bin .shr (.t 20) (.c (.int .u64 63))), .o 22 (.conv .u64 (.t 21)), .o 23 (.mv (.t 6)), .o 24 (.xcall 51 [(.t 19), (.t 22), (.t 23)]), .o 17 (.mv (.t 24)), .o 25 (.ext 0 (.t 17)), .o 26 (.ext 1 (.t 17)), .o 7 (.mv (.t 25)), .o 8 (.mv (.t 26))])
  (.seq (.ops [.o 27 (.mv (.t 7)), .o 28 (.mv (.t 5)), .o 29 (.build (.st (.cons (.val (.int .u64 0)) (.cons (.val (.int .u64 0)) .nil))) [(0, 0, 1, (.t 27)), (1, 1, 1, (.t 28))]), .n (.sto 2 (.t 4) (.t 29))])
  .ret))))
theorem hc36 : compF Try.prog 30 Try.f36 = some (ic36, [.c 4 true 2]) := by kernel_rfl

/-- (arrears/statement.wide).cents -/
def ic37 : IC := (.seq (.ops [.o 1 (.box (.t 0)), .o 2 (.mv (.c (.int .i64 0))), .o 3 (.mv (.c (.bool false)))])
  (.seq (.ops [.o 5 (.fa 1 1 (.t 1)), .o 6 (.ld false 1 (.t 5)), .o 7 (.conv .i64 (.t 6)), .o 4 (.mv (.t 7))])
  (.seq (.dops [.o 8 (.mv (.t 4)), .o 9 (.mv (.t 4)), .o 10 (.bin .shr (.t 9) (.c (.int .u64 63))), .o 11 (.conv .u64 (.t 10)), .o 12 (.fa 0 0 (.t 1)), .o 13 (.ld false 1 (.t 12)), .o 14 (.bin .eql (.t 11) (.t 13)), .o 2 (.mv (.t 8)), .o 3 (.mv (.t 14))])
  .ret)))
theorem hc37 : compF Try.prog 15 Try.f37 = some (ic37, [.t 2, .t 3]) := by kernel_rfl

/-- arrears/arrearsref1.Sum -/
def ic38 : IC := (.seq (.ops [.o 2 (.mv (.c (.int .i64 0))), .o 3 (.mv (.c (.bool false)))])
  (.seq (.ops [.o 4 (.mv (.c (.int .i64 0))), .o 5 (.mv (.c (.int .i64 0)))])
  (.seq (.seq (.ops [.o 6 (.mv (.c (.int .i64 0)))])
  (.block 0 (.loop (.seq (.seq (.ops [.o 7 (.mv (.t 6)), .o 8 (.mv (.t 0)), .o 9 (.len (.t 8)), .o 10 (.bin .lss (.t 7) (.t 9))])
  (.cond (.t 10)
  .skip
  (.exit 0)))
  (.seq (.block 1 (.seq (.ops [.o 13 (.mv (.t 4)), .o 14 (.mv (.t 0)), .o 15 (.mv (.t 6)), .o 16 (.ixs 1 (.t 14) (.t 15)), .o 17 (.ld false 1 (.t 16)), .o 18 (.call 52 [(.t 17)]), .o 19 (.bin .add (.t 13) (.t 18)), .o 4 (.mv (.t 19))])
  (.ops [.o 20 (.mv (.t 5)), .o 21 (.mv (.t 0)), .o 22 (.mv (.t 6)), .o 23 (.ixs 1 (.t 21) (.t 22)), .o 24 (.ld false 1 (.t 23)), .o 25 (.call 53 [(.t 24)]), .o 26 (.bin .add (.t 20) (.t 25)), .o 5 (.mv (.t 26))])))
  (.ops [.o 11 (.mv (.t 6)), .o 12 (.bin .add (.t 11) (.c (.int .i64 1))), .o 6 (.mv (.t 12))]))))))
  (.seq (.ops [.o 27 (.mv (.t 4)), .o 28 (.mv (.t 5)), .o 29 (.call 54 [(.t 27), (.t 28)]), .o 30 (.ext 0 (.t 29)), .o 31 (.ext 1 (.t 29)), .o 2 (.mv (.t 30)), .o 3 (.mv (.t 31))])
  .ret))))
theorem hc38 : compF Try.prog 32 Try.f38 = some (ic38, [.t 2, .t 3]) := by kernel_rfl

/-- arrears/arrearsref1.high -/
def ic52 : IC := (.seq (.ops [.o 2 (.mv (.c (.int .i64 0)))])
  (.seq (.ops [.o 3 (.mv (.t 0)), .o 4 (.bin .shr (.t 3) (.c (.int .u64 32))), .o 2 (.mv (.t 4))])
  .ret))
theorem hc52 : compF Try.prog 5 Try.f52 = some (ic52, [.t 2]) := by kernel_rfl

/-- arrears/arrearsref1.lowOf -/
def ic53 : IC := (.seq (.ops [.o 2 (.mv (.c (.int .i64 0)))])
  (.seq (.ops [.o 3 (.mv (.t 0)), .o 4 (.mv (.t 0)), .o 5 (.call 52 [(.t 4)]), .o 6 (.bin .mul (.t 5) (.c (.int .i64 4294967296))), .o 7 (.bin .sub (.t 3) (.t 6)), .o 2 (.mv (.t 7))])
  .ret))
theorem hc53 : compF Try.prog 8 Try.f53 = some (ic53, [.t 2]) := by kernel_rfl

/-- arrears/arrearsref1.joined -/
def ic54 : IC := (.seq (.ops [.o 4 (.mv (.c (.int .i64 0))), .o 5 (.mv (.c (.bool false)))])
  (.seq (.ops [.o 7 (.mv (.t 1)), .o 8 (.bin .shr (.t 7) (.c (.int .u64 32))), .o 6 (.mv (.t 8))])
  (.seq (.ops [.o 9 (.mv (.t 0)), .o 10 (.mv (.t 6)), .o 11 (.bin .add (.t 9) (.t 10)), .o 0 (.mv (.t 11))])
  (.seq (.ops [.o 12 (.mv (.t 1)), .o 13 (.mv (.t 6)), .o 14 (.bin .mul (.t 13) (.c (.int .i64 4294967296))), .o 15 (.bin .sub (.t 12) (.t 14)), .o 1 (.mv (.t 15))])
  (.seq (.seq (.ops [.o 16 (.mv (.t 0)), .o 17 (.bin .lss (.t 16) (.c (.int .i64 (-2147483648)))), .o 18 (.mv (.t 17)), .og 19 18 false (.mv (.t 0)), .og 20 18 false (.bin .gtr (.t 19) (.c (.int .i64 2147483647))), .o 21 (.pick (.t 18) (.c (.bool true)) (.t 20))])
  (.cond (.t 21)
  (.seq (.ops [.o 4 (.mv (.c (.int .i64 0))), .o 5 (.mv (.c (.bool false)))])
  .ret)
  .skip))
  (.seq (.ops [.o 22 (.mv (.t 0)), .o 23 (.bin .mul (.t 22) (.c (.int .i64 4294967296))), .o 24 (.mv (.t 1)), .o 25 (.bin .add (.t 23) (.t 24)), .o 4 (.mv (.t 25)), .o 5 (.mv (.c (.bool true)))])
  .ret))))))
theorem hc54 : compF Try.prog 26 Try.f54 = some (ic54, [.t 4, .t 5]) := by kernel_rfl

end Go.Proofs.Ytjkmmcbfcglkdaa
