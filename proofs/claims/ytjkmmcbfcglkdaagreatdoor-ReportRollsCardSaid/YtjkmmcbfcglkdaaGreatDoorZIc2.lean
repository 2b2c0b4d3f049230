/- The given functions as the walk reads them, continued. No condition. -/
import Derived.Test.YtjkmmcbfcglkdaaGreatDoorZIc
set_option linter.all false
namespace Go.Proofs.YtjkmmcbfcglkdaaGreatDoor
open Go Ar
set_option linter.unusedVariables false
set_option maxRecDepth 100000

theorem fn_policy_rules : Tryz.prog.funcs[policy_rules]? = some Tryz.f64 := Tryz.func64
theorem nt_policy_rules : Tryz.f64.ntmps = 34 := Tryz.ntmps64
def ic_policy_rules : IC := (.seq (.ops [.o 0 (.mv (.c (.slice none 0 0)))])
  (.seq (.ops [.o 1 (.call 101 [(ci 1)]), .o 2 (.call 99 [(.f 100), t1, (ci 3652059)]), .o 3 (.call 101 [(ci 0)]), .o 4 (.call 99 [(.f 102), t3, (ci 30)]), .o 5 (.call 99 [(.f 103), (.f 104), (ci 365)]), .o 6 (.call 101 [(ci 1)]), .o 7 (.call 99 [(.f 105), t6, (ci 365)]), .o 8 (.call 108 [(ci 0)]), .o 9 (.call 106 [(.f 107), t8, (ci 10000)]), .o 10 (.call 108 [(ci 0)]), .o 11 (.call 106 [(.f 109), t10, (ci 1000000000)]), .o 12 (.call 106 [(.f 110), (.f 111), (ci 1000000000)]), .o 13 (.call 108 [(ci 0)]), .o 14 (.call 106 [(.f 112), t13, (ci 1000000000)]), .o 15 (.call 108 [(ci 0)]), .o 16 (.call 106 [(.f 113), t15, (ci 1000000000)]), .o 17 (.call 101 [(ci 0)]), .o 18 (.call 99 [(.f 114), t17, (ci 8)]), .o 19 (.call 101 [(ci 1)]), .o 20 (.call 99 [(.f 115), t19, (ci 60)]), .o 21 (.call 101 [(ci 0)]), .o 22 (.call 99 [(.f 116), t21, (ci 4)]), .o 23 (.call 101 [(ci 0)]), .o 24 (.call 99 [(.f 117), t23, (ci 5)]), .o 25 (.call 101 [(ci 0)]), .o 26 (.call 99 [(.f 118), t25, (ci 3)]), .o 27 (.call 101 [(ci 1)]), .o 28 (.call 99 [(.f 119), t27, (ci 64)]), .o 29 (.call 99 [(.f 120), (.f 121), (ci 64)]), .o 30 (.call 101 [(ci 0)]), .o 31 (.call 99 [(.f 122), t30, (ci 1000)]), .o 32 (.build (.st (.cons (.val (.nilFunc)) .nil)) [(0, 0, 1, (.f 123))]), .o 33 (.bsl 1 120 (.st (.cons (.val (.nilFunc)) .nil)) [(0, 0, 1, t2), (1, 1, 1, t4), (2, 2, 1, t5), (3, 3, 1, t7), (4, 4, 1, t9), (5, 5, 1, t11), (6, 6, 1, t12), (7, 7, 1, t14), (8, 8, 1, t16), (9, 9, 1, t18), (10, 10, 1, t20), (11, 11, 1, t22), (12, 12, 1, t24), (13, 13, 1, t26), (14, 14, 1, t28), (15, 15, 1, t29), (16, 16, 1, t31), (17, 17, 1, t32)]), .o 0 (.mv t33)])
  .ret))
theorem hc_policy_rules : compF Tryz.prog 34 Tryz.f64 = some (ic_policy_rules, [.t 0]) := by kernel_rfl

theorem fn_aging_lateness : Tryz.prog.funcs[aging_lateness]? = some Tryz.f65 := Tryz.func65
theorem nt_aging_lateness : Tryz.f65.ntmps = 13 := Tryz.ntmps65
def ic_aging_lateness : IC := (.seq (.ops [.o 2 (.box t0), .o 4 (.mv (ci 0))])
  (.seq (.seq (.ops [.o 5 (.mv t1), .o 6 (.fa 0 0 t2), .o 7 (.ld false 1 t6), .o 8 (.bin .leq t5 t7)])
  (.cond t8
  (.seq (.ops [.o 4 (.mv (ci 0))])
  .ret)
  .skip))
  (.seq (.ops [.o 9 (.mv t1), .o 10 (.fa 0 0 t2), .o 11 (.ld false 1 t10), .o 12 (.bin .sub t9 t11), .o 4 (.mv t12)])
  .ret)))
theorem hc_aging_lateness : compF Tryz.prog 13 Tryz.f65 = some (ic_aging_lateness, [.t 4]) := by kernel_rfl

theorem fn_ledger_Balance : Tryz.prog.funcs[ledger_Balance]? = some Tryz.f66 := Tryz.func66
theorem nt_ledger_Balance : Tryz.f66.ntmps = 26 := Tryz.ntmps66
def ic_ledger_Balance : IC := (.seq (.ops [.o 2 (.box t0), .o 4 (.mv (ci 0)), .o 5 (.mv (ci 0))])
  (.seq (.seq (.ops [.o 7 (.mv t1), .o 8 (.bin .lss t7 (ci 0)), .o 9 (.mv t8), .og 10 9 false (.mv t1), .og 11 9 false (.bin .geq t10 (ci 12)), .o 12 (.pick t9 (.c (.bool true)) t11)])
  (.cond t12
  (.seq (.ops [.o 4 (.mv (ci 0)), .o 5 (.mv (ci 80))])
  .ret)
  .skip))
  (.seq (.ops [.o 13 (.mv t1), .o 14 (.fa 0 0 t2), .o 15 (.ixa 12 1 t14 t13), .o 16 (.ld false 1 t15), .o 6 (.mv t16)])
  (.seq (.seq (.ops [.o 17 (.mv t1), .o 18 (.ixa 12 1 (.g 0) t17), .o 19 (.ld false 1 t18), .o 20 (.bin .gtr t19 (ci 0))])
  (.cond t20
  (.seq (.ops [.o 21 (.mv t6), .o 4 (.mv t21), .o 5 (.mv (ci 0))])
  .ret)
  .skip))
  (.seq (.seq (.ops [.o 22 (.mv t6), .o 23 (.bin .eql t22 (ci (-9223372036854775808)))])
  (.cond t23
  (.seq (.ops [.o 4 (.mv (ci 0)), .o 5 (.mv (ci 3))])
  .ret)
  .skip))
  (.seq (.ops [.o 24 (.mv t6), .o 25 (.un .neg t24), .o 4 (.mv t25), .o 5 (.mv (ci 0))])
  .ret))))))
theorem hc_ledger_Balance : compF Tryz.prog 26 Tryz.f66 = some (ic_ledger_Balance, [.t 4, .t 5]) := by kernel_rfl

theorem fn_aging_sound : Tryz.prog.funcs[aging_sound]? = some Tryz.f67 := Tryz.func67
theorem nt_aging_sound : Tryz.f67.ntmps = 54 := Tryz.ntmps67
def ic_aging_sound : IC := (.seq (.ops [.o 2 (.mv (.c (.bool false)))])
  (.seq (.ops [.o 3 (.mv (.c (.bool true)))])
  (.seq (.ops [.o 4 (.mv (ci 0))])
  (.seq (.ops [.o 10 (.mv t0), .o 11 (.len t10), .o 12 (.bin .mul (ci 2) t11), .o 13 (.mks 1 8 2 zi (ci 0) t12), .o 5 (.mv t13)])
  (.seq .skip
  (.seq (.seq (.ops [.o 14 (.mv t0), .o 15 (.len t14), .o 16 (.mv (ci 0))])
  (.block 0 (.loop (.seq (.ops [.o 17 (.bin .lss t16 t15)])
  (.seq (.cond t17
  .skip
  (.exit 0))
  (.seq (.block 1 (.seq (.ops [.o 18 (.ixs 4 t14 t16), .o 19 (.ld true 4 t18), .o 7 (.alloc (.st (zc (zc (zc (zf .nil)))))), .n (.sto 4 t7 t19)])
  (.seq (.seq (.ops [.o 20 (.fa 0 0 t7), .o 21 (.ld false 1 t20), .o 22 (.mv t4), .o 23 (.bin .leq t21 t22), .o 24 (.mv t23), .og 25 24 false (.fa 0 0 t7), .og 26 24 false (.ld false 1 t25), .og 27 24 false (.bin .gtr t26 (ci 3652059)), .o 28 (.pick t24 (.c (.bool true)) t27)])
  (.cond t28
  (.seq (.ops [.o 3 (.mv (.c (.bool false)))])
  (.exit 0))
  .skip))
  (.seq (.ops [.o 29 (.fa 0 0 t7), .o 30 (.ld false 1 t29), .o 4 (.mv t30)])
  (.seq (.ops [.o 31 (.fa 1 1 t7), .o 32 (.ld false 1 t31), .o 33 (.fa 2 2 t7), .o 34 (.ld false 1 t33), .o 35 (.build (.arr 2 1 fun _ => zi) [(0, 0, 1, t32), (1, 1, 1, t34)]), .o 36 (.mv (ci 0))])
  (.block 2 (.loop (.seq (.ops [.o 37 (.bin .lss t36 (ci 2))])
  (.seq (.cond t37
  .skip
  (.exit 2))
  (.seq (.block 3 (.seq (.ops [.o 38 (.ix false 2 1 t35 t36), .o 9 (.mv t38)])
  (.seq (.seq (.ops [.o 39 (.mv t9), .o 40 (.bin .lss t39 (ci 0))])
  (.cond t40
  (.seq (.ops [.o 3 (.mv (.c (.bool false)))])
  (.exit 0))
  .skip))
  (.ops [.o 41 (.mv t5), .o 42 (.mv t9), .o 43 (.bsl 1 2 zi [(0, 0, 1, t42)]), .o 44 (.app 1 8 2 t41 t43), .o 5 (.mv t44)]))))
  (.ops [.o 45 (.bin .add t36 (ci 1)), .o 36 (.mv t45)])))))))))))
  (.ops [.o 46 (.bin .add t16 (ci 1)), .o 16 (.mv t46)])))))))
  (.seq (.seq (.ops [.o 47 (.mv t3)])
  (.cond t47
  (.ops [.o 49 (.mv t5), .o 50 (.call 124 [t49]), .o 48 (.mv t50), .o 51 (.ext 0 t48), .o 52 (.ext 1 t48), .o 3 (.mv t52)])
  .skip))
  (.seq (.ops [.o 53 (.mv t3), .o 2 (.mv t53)])
  .ret))))))))
theorem hc_aging_sound : compF Tryz.prog 54 Tryz.f67 = some (ic_aging_sound, [.t 2]) := by kernel_rfl

theorem fn_aging_front : Tryz.prog.funcs[aging_front]? = some Tryz.f68 := Tryz.func68
theorem nt_aging_front : Tryz.f68.ntmps = 47 := Tryz.ntmps68
def ic_aging_front : IC := (.seq (.ops [.o 3 (.box t1), .o 4 (.mv (ci 0))])
  (.seq (.seq (.ops [.o 8 (.fa 1 1 t3), .o 9 (.ld false 1 t8), .o 10 (.bin .leq t9 (ci 0))])
  (.cond t10
  (.seq (.ops [.o 11 (.mv t0), .o 12 (.len t11), .o 4 (.mv t12)])
  .ret)
  .skip))
  (.seq (.ops [.o 13 (.fa 0 0 t3), .o 14 (.ld false 1 t13), .o 15 (.mm true t14 (ci 0)), .o 5 (.mv t15)])
  (.seq (.seq (.ops [.o 16 (.mv t0), .o 17 (.len t16), .o 18 (.mv (ci 0))])
  (.block 0 (.loop (.seq (.ops [.o 19 (.bin .lss t18 t17)])
  (.seq (.cond t19
  .skip
  (.exit 0))
  (.seq (.block 1 (.seq (.ops [.o 20 (.mv t18), .o 6 (.mv t20)])
  (.seq (.dops [.o 21 (.mv t0), .o 22 (.mv t6), .o 23 (.ixs 4 t21 t22), .o 24 (.fa 1 1 t23), .o 25 (.ld false 1 t24), .o 26 (.mv t0), .o 27 (.mv t6), .o 28 (.ixs 4 t26 t27), .o 29 (.fa 2 2 t28), .o 30 (.ld false 1 t29), .o 31 (.bin .add t25 t30), .o 7 (.mv t31)])
  (.seq (.seq (.ops [.o 32 (.mv t6), .o 33 (.mv t0), .o 34 (.len t33), .o 35 (.bin .sub t34 (ci 1)), .o 36 (.bin .eql t32 t35), .o 37 (.mv t36), .og 38 37 false (.mv t7), .og 39 37 false (.mv t5), .og 40 37 false (.bin .gtr t38 t39), .o 41 (.pick t37 (.c (.bool true)) t40)])
  (.cond t41
  (.seq (.ops [.o 42 (.mv t6), .o 4 (.mv t42)])
  .ret)
  .skip))
  (.ops [.o 43 (.mv t5), .o 44 (.mv t7), .o 45 (.bin .sub t43 t44), .o 5 (.mv t45)])))))
  (.ops [.o 46 (.bin .add t18 (ci 1)), .o 18 (.mv t46)])))))))
  (.seq (.ops [.o 4 (.mv (ci 0))])
  .ret)))))
theorem hc_aging_front : compF Tryz.prog 47 Tryz.f68 = some (ic_aging_front, [.t 4]) := by kernel_rfl

theorem fn_r10_Days : Tryz.prog.funcs[r10_Days]? = some Tryz.f69 := Tryz.func69
theorem nt_r10_Days : Tryz.f69.ntmps = 23 := Tryz.ntmps69
def ic_r10_Days : IC := (.seq (.ops [.o 4 (.box t1), .o 6 (.mv (ci 0))])
  (.seq (.ops [.o 10 (.mv t0), .o 11 (.ld true 2 t4), .o 12 (.call 47 [t10, t11]), .o 9 (.mv t12), .o 13 (.ext 0 t9), .o 14 (.ext 1 t9), .o 7 (.mv t13), .o 8 (.mv t14)])
  (.seq (.seq (.ops [.o 15 (.mv t8), .o 16 (.un .not t15)])
  (.cond t16
  (.seq (.ops [.o 6 (.mv (ci 0))])
  .ret)
  .skip))
  (.seq (.ops [.o 17 (.mv t0), .o 18 (.mv t7), .o 19 (.ixs 4 t17 t18), .o 20 (.ld true 4 t19), .o 21 (.mv t2), .o 22 (.call 125 [t20, t21]), .o 6 (.mv t22)])
  .ret))))
theorem hc_r10_Days : compF Tryz.prog 23 Tryz.f69 = some (ic_r10_Days, [.t 6]) := by kernel_rfl

theorem fn_r10_PastDue : Tryz.prog.funcs[r10_PastDue]? = some Tryz.f70 := Tryz.func70
theorem nt_r10_PastDue : Tryz.f70.ntmps = 61 := Tryz.ntmps70
def ic_r10_PastDue : IC := (.seq (.ops [.o 4 (.box t1), .o 6 (.mv (ci 0))])
  (.seq (.ops [.o 10 (.mv t0), .o 11 (.call 72 [t10]), .o 7 (.mv t11)])
  (.seq (.seq (.ops [.o 12 (.fa 1 1 t4), .o 13 (.ld false 1 t12), .o 14 (.bin .leq t13 (ci 0)), .o 15 (.mv t14), .og 16 15 false (.mv t7), .og 17 15 false (.len t16), .og 18 15 false (.bin .eql t17 (ci 0)), .o 19 (.pick t15 (.c (.bool true)) t18)])
  (.cond t19
  (.seq (.ops [.o 6 (.mv (ci 0))])
  .ret)
  .skip))
  (.seq (.seq (.ops [.o 20 (.mv t7), .o 21 (.mv t7), .o 22 (.len t21), .o 23 (.bin .sub t22 (ci 1)), .o 24 (.ixs 4 t20 t23), .o 25 (.fa 0 0 t24), .o 26 (.ld false 1 t25), .o 27 (.mv t2), .o 28 (.bin .lss t26 t27)])
  (.cond t28
  (.seq (.ops [.o 29 (.fa 1 1 t4), .o 30 (.ld false 1 t29), .o 6 (.mv t30)])
  .ret)
  .skip))
  (.seq (.ops [.o 8 (.mv (ci 0))])
  (.seq (.block 0 (.loop (.seq (.seq (.ops [.o 31 (.mv t8), .o 32 (.mv t7), .o 33 (.len t32), .o 34 (.bin .lss t31 t33), .o 35 (.mv t34), .og 36 35 true (.mv t7), .og 37 35 true (.mv t8), .og 38 35 true (.ixs 4 t36 t37), .og 39 35 true (.fa 0 0 t38), .og 40 35 true (.ld false 1 t39), .og 41 35 true (.mv t2), .og 42 35 true (.bin .lss t40 t41), .o 43 (.pick t35 t42 (.c (.bool false)))])
  (.cond t43
  .skip
  (.exit 0)))
  (.block 1 (.ops [.o 44 (.mv t8), .o 45 (.bin .add t44 (ci 1)), .o 8 (.mv t45)])))))
  (.seq (.dops [.o 46 (.mv t7), .o 47 (.mv t8), .o 48 (.call 126 [t46, t47]), .o 49 (.ld true 2 t4), .o 50 (.call 127 [t49]), .o 51 (.bin .sub t48 t50), .o 9 (.mv t51)])
  (.seq (.seq (.ops [.o 52 (.mv t9), .o 53 (.bin .lss t52 (ci 0))])
  (.cond t53
  (.seq (.ops [.o 6 (.mv (ci 0))])
  .ret)
  .skip))
  (.seq (.seq (.ops [.o 54 (.mv t9), .o 55 (.fa 1 1 t4), .o 56 (.ld false 1 t55), .o 57 (.bin .gtr t54 t56)])
  (.cond t57
  (.seq (.ops [.o 58 (.fa 1 1 t4), .o 59 (.ld false 1 t58), .o 6 (.mv t59)])
  .ret)
  .skip))
  (.seq (.ops [.o 60 (.mv t9), .o 6 (.mv t60)])
  .ret))))))))))
theorem hc_r10_PastDue : compF Tryz.prog 61 Tryz.f70 = some (ic_r10_PastDue, [.t 6]) := by kernel_rfl

theorem fn_r8_Balance : Tryz.prog.funcs[r8_Balance]? = some Tryz.f71 := Tryz.func71
theorem nt_r8_Balance : Tryz.f71.ntmps = 21 := Tryz.ntmps71
def ic_r8_Balance : IC := (.seq (.ops [.o 2 (.box t0), .o 4 (.mv (ci 0)), .o 5 (.mv (ci 0))])
  (.seq (.seq (.ops [.o 7 (.mv t1), .o 8 (.call 128 [t7]), .o 9 (.un .not t8)])
  (.cond t9
  (.seq (.ops [.o 4 (.mv (ci 0)), .o 5 (.mv (ci 80))])
  .ret)
  .skip))
  (.seq (.ops [.o 10 (.mv t1), .o 11 (.fa 0 0 t2), .o 12 (.ixa 12 1 t11 t10), .o 13 (.ld false 1 t12), .o 6 (.mv t13)])
  (.seq (.seq (.ops [.o 14 (.mv t1), .o 15 (.call 129 [t14])])
  (.cond t15
  (.seq (.ops [.o 16 (.mv t6), .o 4 (.mv t16), .o 5 (.mv (ci 0))])
  .ret)
  .skip))
  (.seq (.seq (.ops [.o 17 (.mv t6), .o 18 (.bin .eql t17 (ci (-9223372036854775808)))])
  (.cond t18
  (.seq (.ops [.o 4 (.mv (ci 0)), .o 5 (.mv (ci 3))])
  .ret)
  .skip))
  (.seq (.ops [.o 19 (.mv t6), .o 20 (.un .neg t19), .o 4 (.mv t20), .o 5 (.mv (ci 0))])
  .ret))))))
theorem hc_r8_Balance : compF Tryz.prog 21 Tryz.f71 = some (ic_r8_Balance, [.t 4, .t 5]) := by kernel_rfl

theorem fn_r10_rows : Tryz.prog.funcs[r10_rows]? = some Tryz.f72 := Tryz.func72
theorem nt_r10_rows : Tryz.f72.ntmps = 6 := Tryz.ntmps72
def ic_r10_rows : IC := (.seq (.ops [.o 2 (.mv (.c (.slice none 0 0)))])
  (.seq (.seq (.ops [.o 3 (.mv t0), .o 4 (.call 130 [t3])])
  (.cond t4
  (.seq (.ops [.o 5 (.mv t0), .o 2 (.mv t5)])
  .ret)
  .skip))
  (.seq (.ops [.o 2 (.mv (.c (.slice none 0 0)))])
  .ret)))
theorem hc_r10_rows : compF Tryz.prog 6 Tryz.f72 = some (ic_r10_rows, [.t 2]) := by kernel_rfl

theorem fn_r10_satisfied : Tryz.prog.funcs[r10_satisfied]? = some Tryz.f73 := Tryz.func73
theorem nt_r10_satisfied : Tryz.f73.ntmps = 40 := Tryz.ntmps73
def ic_r10_satisfied : IC := (.seq (.ops [.o 3 (.box t1), .o 4 (.mv (ci 0))])
  (.seq (.seq (.ops [.o 8 (.fa 1 1 t3), .o 9 (.ld false 1 t8), .o 10 (.bin .leq t9 (ci 0))])
  (.cond t10
  (.seq (.ops [.o 11 (.mv t0), .o 12 (.len t11), .o 4 (.mv t12)])
  .ret)
  .skip))
  (.seq (.ops [.o 5 (.mv (ci 0))])
  (.seq (.ops [.o 6 (.mv (ci 0))])
  (.seq (.seq (.ops [.o 7 (.mv (ci 0))])
  (.block 0 (.loop (.seq (.seq (.ops [.o 13 (.mv t7), .o 14 (.bin .add t13 (ci 1)), .o 15 (.mv t0), .o 16 (.len t15), .o 17 (.bin .lss t14 t16)])
  (.cond t17
  .skip
  (.exit 0)))
  (.seq (.block 1 (.seq (.dops [.o 20 (.mv t6), .o 21 (.mv t0), .o 22 (.mv t7), .o 23 (.ixs 4 t21 t22), .o 24 (.fa 1 1 t23), .o 25 (.ld false 1 t24), .o 26 (.bin .add t20 t25), .o 27 (.mv t0), .o 28 (.mv t7), .o 29 (.ixs 4 t27 t28), .o 30 (.fa 2 2 t29), .o 31 (.ld false 1 t30), .o 32 (.bin .add t26 t31), .o 6 (.mv t32)])
  (.seq (.ops [.o 33 (.mv t6), .o 34 (.ld true 2 t3), .o 35 (.call 127 [t34]), .o 36 (.bin .leq t33 t35)])
  (.cond t36
  (.ops [.o 37 (.mv t7), .o 38 (.bin .add t37 (ci 1)), .o 5 (.mv t38)])
  .skip))))
  (.ops [.o 18 (.mv t7), .o 19 (.bin .add t18 (ci 1)), .o 7 (.mv t19)]))))))
  (.seq (.ops [.o 39 (.mv t5), .o 4 (.mv t39)])
  .ret))))))
theorem hc_r10_satisfied : compF Tryz.prog 40 Tryz.f73 = some (ic_r10_satisfied, [.t 4]) := by kernel_rfl

theorem fn_r1_size : Tryz.prog.funcs[r1_size]? = some Tryz.f78 := Tryz.func78
theorem nt_r1_size : Tryz.f78.ntmps = 12 := Tryz.ntmps78
def ic_r1_size : IC := (.seq (.ops [.o 2 (.mv (.c (.int .u64 0)))])
  (.seq (.seq (.ops [.o 3 (.mv t0), .o 4 (.bin .lss t3 (ci 0))])
  (.cond t4
  (.seq (.ops [.o 5 (.mv t0), .o 6 (.bin .add t5 (ci 1)), .o 7 (.un .neg t6), .o 8 (.conv .u64 t7), .o 9 (.bin .add t8 (.c (.int .u64 1))), .o 2 (.mv t9)])
  .ret)
  .skip))
  (.seq (.ops [.o 10 (.mv t0), .o 11 (.conv .u64 t10), .o 2 (.mv t11)])
  .ret)))
theorem hc_r1_size : compF Tryz.prog 12 Tryz.f78 = some (ic_r1_size, [.t 2]) := by kernel_rfl

theorem fn_r1_over : Tryz.prog.funcs[r1_over]? = some Tryz.f79 := Tryz.func79
theorem nt_r1_over : Tryz.f79.ntmps = 45 := Tryz.ntmps79
def ic_r1_over : IC := (.seq (.ops [.o 4 (.mv (.c (.slice none 0 0))), .o 5 (.mv (.c (.int .u64 0)))])
  (.seq (.ops [.o 6 (.mv (.c (.slice none 0 0)))])
  (.seq (.seq (.ops [.o 7 (.mv (ci 0))])
  (.block 0 (.loop (.seq (.seq (.ops [.o 10 (.mv t7), .o 11 (.mv t0), .o 12 (.len t11), .o 13 (.bin .lss t10 t12)])
  (.cond t13
  .skip
  (.exit 0)))
  (.seq (.block 1 (.ops [.o 16 (.mv t6), .o 17 (.bsl 1 3 zi [(0, 0, 1, (ci 0))]), .o 18 (.app 1 8 3 t16 t17), .o 6 (.mv t18)]))
  (.ops [.o 14 (.mv t7), .o 15 (.bin .add t14 (ci 1)), .o 7 (.mv t15)]))))))
  (.seq (.ops [.o 8 (.mv (.c (.int .u64 0)))])
  (.seq (.seq (.ops [.o 19 (.mv t0), .o 20 (.len t19), .o 21 (.bin .sub t20 (ci 1)), .o 9 (.mv t21)])
  (.block 2 (.loop (.seq (.seq (.ops [.o 22 (.mv t9), .o 23 (.bin .geq t22 (ci 0))])
  (.cond t23
  .skip
  (.exit 2)))
  (.seq (.block 3 (.seq (.ops [.o 26 (.mv t8), .o 27 (.bin .mul (.c (.int .u64 2)) t26), .o 28 (.mv t0), .o 29 (.mv t9), .o 30 (.ixs 1 t28 t29), .o 31 (.ld false 1 t30), .o 32 (.conv .u64 t31), .o 33 (.bin .add t27 t32), .o 8 (.mv t33)])
  (.seq (.ops [.o 34 (.mv t8), .o 35 (.mv t1), .o 36 (.bin .geq t34 t35)])
  (.cond t36
  (.seq (.ops [.o 37 (.mv t8), .o 38 (.mv t1), .o 39 (.bin .sub t37 t38), .o 8 (.mv t39)])
  (.ops [.o 40 (.mv t6), .o 41 (.mv t9), .o 42 (.ixs 1 t40 t41), .n (.sto 1 t42 (ci 1))]))
  .skip))))
  (.ops [.o 24 (.mv t9), .o 25 (.bin .sub t24 (ci 1)), .o 9 (.mv t25)]))))))
  (.seq (.ops [.o 43 (.mv t6), .o 44 (.mv t8), .o 4 (.mv t43), .o 5 (.mv t44)])
  .ret))))))
theorem hc_r1_over : compF Tryz.prog 45 Tryz.f79 = some (ic_r1_over, [.t 4, .t 5]) := by kernel_rfl

theorem fn_r1_times : Tryz.prog.funcs[r1_times]? = some Tryz.f80 := Tryz.func80
theorem nt_r1_times : Tryz.f80.ntmps = 70 := Tryz.ntmps80
def ic_r1_times : IC := (.seq (.ops [.o 4 (.mv (.c (.slice none 0 0)))])
  (.seq (.ops [.o 5 (.mv (.c (.slice none 0 0)))])
  (.seq (.seq (.ops [.o 6 (.mv (ci 0))])
  (.block 0 (.loop (.seq (.seq (.ops [.o 12 (.mv t6), .o 13 (.bin .lss t12 (ci 128))])
  (.cond t13
  .skip
  (.exit 0)))
  (.seq (.block 1 (.ops [.o 16 (.mv t5), .o 17 (.bsl 1 3 zi [(0, 0, 1, (ci 0))]), .o 18 (.app 1 8 3 t16 t17), .o 5 (.mv t18)]))
  (.ops [.o 14 (.mv t6), .o 15 (.bin .add t14 (ci 1)), .o 6 (.mv t15)]))))))
  (.seq (.seq (.ops [.o 7 (.mv (ci 0))])
  (.block 2 (.loop (.seq (.seq (.ops [.o 19 (.mv t7), .o 20 (.mv t0), .o 21 (.len t20), .o 22 (.bin .lss t19 t21)])
  (.cond t22
  .skip
  (.exit 2)))
  (.seq (.block 3 (.seq (.ops [.o 8 (.mv (ci 0))])
  (.block 4 (.loop (.seq (.seq (.ops [.o 25 (.mv t8), .o 26 (.mv t1), .o 27 (.len t26), .o 28 (.bin .lss t25 t27)])
  (.cond t28
  .skip
  (.exit 4)))
  (.seq (.block 5 (.dops [.o 31 (.mv t5), .o 32 (.mv t7), .o 33 (.mv t8), .o 34 (.bin .add t32 t33), .o 35 (.mv t5), .o 36 (.mv t7), .o 37 (.mv t8), .o 38 (.bin .add t36 t37), .o 39 (.ixs 1 t35 t38), .o 40 (.ld false 1 t39), .o 41 (.mv t0), .o 42 (.mv t7), .o 43 (.ixs 1 t41 t42), .o 44 (.ld false 1 t43), .o 45 (.mv t1), .o 46 (.mv t8), .o 47 (.ixs 1 t45 t46), .o 48 (.ld false 1 t47), .o 49 (.bin .mul t44 t48), .o 50 (.bin .add t40 t49), .o 51 (.ixs 1 t31 t34), .n (.sto 1 t51 t50)]))
  (.ops [.o 29 (.mv t8), .o 30 (.bin .add t29 (ci 1)), .o 8 (.mv t30)])))))))
  (.ops [.o 23 (.mv t7), .o 24 (.bin .add t23 (ci 1)), .o 7 (.mv t24)]))))))
  (.seq (.ops [.o 9 (.mv (ci 0))])
  (.seq (.seq (.ops [.o 10 (.mv (ci 0))])
  (.block 6 (.loop (.seq (.seq (.ops [.o 52 (.mv t10), .o 53 (.bin .lss t52 (ci 128))])
  (.cond t53
  .skip
  (.exit 6)))
  (.seq (.block 7 (.seq (.ops [.o 56 (.mv t5), .o 57 (.mv t10), .o 58 (.ixs 1 t56 t57), .o 59 (.ld false 1 t58), .o 60 (.mv t9), .o 61 (.bin .add t59 t60), .o 11 (.mv t61)])
  (.seq (.ops [.o 62 (.mv t5), .o 63 (.mv t10), .o 64 (.mv t11), .o 65 (.bin .rem t64 (ci 2)), .o 66 (.ixs 1 t62 t63), .n (.sto 1 t66 t65)])
  (.ops [.o 67 (.mv t11), .o 68 (.bin .quo t67 (ci 2)), .o 9 (.mv t68)]))))
  (.ops [.o 54 (.mv t10), .o 55 (.bin .add t54 (ci 1)), .o 10 (.mv t55)]))))))
  (.seq (.ops [.o 69 (.mv t5), .o 4 (.mv t69)])
  .ret)))))))
theorem hc_r1_times : compF Tryz.prog 70 Tryz.f80 = some (ic_r1_times, [.t 4]) := by kernel_rfl

theorem fn_r1_digits : Tryz.prog.funcs[r1_digits]? = some Tryz.f81 := Tryz.func81
theorem nt_r1_digits : Tryz.f81.ntmps = 18 := Tryz.ntmps81
def ic_r1_digits : IC := (.seq (.ops [.o 2 (.mv (.c (.slice none 0 0)))])
  (.seq (.ops [.o 3 (.mv (.c (.slice none 0 0)))])
  (.seq (.seq (.ops [.o 4 (.mv (ci 0))])
  (.block 0 (.loop (.seq (.seq (.ops [.o 5 (.mv t4), .o 6 (.bin .lss t5 (ci 64))])
  (.cond t6
  .skip
  (.exit 0)))
  (.seq (.block 1 (.seq (.ops [.o 9 (.mv t3), .o 10 (.mv t0), .o 11 (.bin .rem t10 (.c (.int .u64 2))), .o 12 (.conv .i64 t11), .o 13 (.bsl 1 3 zi [(0, 0, 1, t12)]), .o 14 (.app 1 8 3 t9 t13), .o 3 (.mv t14)])
  (.ops [.o 15 (.mv t0), .o 16 (.bin .quo t15 (.c (.int .u64 2))), .o 0 (.mv t16)])))
  (.ops [.o 7 (.mv t4), .o 8 (.bin .add t7 (ci 1)), .o 4 (.mv t8)]))))))
  (.seq (.ops [.o 17 (.mv t3), .o 2 (.mv t17)])
  .ret))))
theorem hc_r1_digits : compF Tryz.prog 18 Tryz.f81 = some (ic_r1_digits, [.t 2]) := by kernel_rfl

theorem fn_r1_more : Tryz.prog.funcs[r1_more]? = some Tryz.f82 := Tryz.func82
theorem nt_r1_more : Tryz.f82.ntmps = 27 := Tryz.ntmps82
def ic_r1_more : IC := (.seq (.ops [.o 2 (.mv (.c (.slice none 0 0)))])
  (.seq (.ops [.o 3 (.mv (.c (.slice none 0 0)))])
  (.seq (.ops [.o 4 (.mv (ci 1))])
  (.seq (.seq (.ops [.o 5 (.mv (ci 0))])
  (.block 0 (.loop (.seq (.seq (.ops [.o 7 (.mv t5), .o 8 (.mv t0), .o 9 (.len t8), .o 10 (.bin .lss t7 t9)])
  (.cond t10
  .skip
  (.exit 0)))
  (.seq (.block 1 (.seq (.ops [.o 13 (.mv t0), .o 14 (.mv t5), .o 15 (.ixs 1 t13 t14), .o 16 (.ld false 1 t15), .o 17 (.mv t4), .o 18 (.bin .add t16 t17), .o 6 (.mv t18)])
  (.seq (.ops [.o 19 (.mv t3), .o 20 (.mv t6), .o 21 (.bin .rem t20 (ci 2)), .o 22 (.bsl 1 3 zi [(0, 0, 1, t21)]), .o 23 (.app 1 8 3 t19 t22), .o 3 (.mv t23)])
  (.ops [.o 24 (.mv t6), .o 25 (.bin .quo t24 (ci 2)), .o 4 (.mv t25)]))))
  (.ops [.o 11 (.mv t5), .o 12 (.bin .add t11 (ci 1)), .o 5 (.mv t12)]))))))
  (.seq (.ops [.o 26 (.mv t3), .o 2 (.mv t26)])
  .ret)))))
theorem hc_r1_more : compF Tryz.prog 27 Tryz.f82 = some (ic_r1_more, [.t 2]) := by kernel_rfl

theorem fn_r1_signed : Tryz.prog.funcs[r1_signed]? = some Tryz.f83 := Tryz.func83
theorem nt_r1_signed : Tryz.f83.ntmps = 47 := Tryz.ntmps83
def ic_r1_signed : IC := (.seq (.ops [.o 4 (.mv (ci 0)), .o 5 (.mv (.c (.bool false)))])
  (.seq (.seq (.ops [.o 6 (.mv (ci 64))])
  (.block 0 (.loop (.seq (.seq (.ops [.o 9 (.mv t6), .o 10 (.mv t1), .o 11 (.len t10), .o 12 (.bin .lss t9 t11)])
  (.cond t12
  .skip
  (.exit 0)))
  (.seq (.block 1 (.seq (.ops [.o 15 (.mv t1), .o 16 (.mv t6), .o 17 (.ixs 1 t15 t16), .o 18 (.ld false 1 t17), .o 19 (.bin .neq t18 (ci 0))])
  (.cond t19
  (.seq (.ops [.o 4 (.mv (ci 0)), .o 5 (.mv (.c (.bool false)))])
  .ret)
  .skip)))
  (.ops [.o 13 (.mv t6), .o 14 (.bin .add t13 (ci 1)), .o 6 (.mv t14)]))))))
  (.seq (.ops [.o 7 (.mv (.c (.int .u64 0)))])
  (.seq (.seq (.ops [.o 8 (.mv (ci 63))])
  (.block 2 (.loop (.seq (.seq (.ops [.o 20 (.mv t8), .o 21 (.bin .geq t20 (ci 0))])
  (.cond t21
  .skip
  (.exit 2)))
  (.seq (.block 3 (.ops [.o 24 (.mv t7), .o 25 (.bin .mul (.c (.int .u64 2)) t24), .o 26 (.mv t1), .o 27 (.mv t8), .o 28 (.ixs 1 t26 t27), .o 29 (.ld false 1 t28), .o 30 (.conv .u64 t29), .o 31 (.bin .add t25 t30), .o 7 (.mv t31)]))
  (.ops [.o 22 (.mv t8), .o 23 (.bin .sub t22 (ci 1)), .o 8 (.mv t23)]))))))
  (.seq (.seq (.ops [.o 32 (.mv t0), .o 33 (.un .not t32)])
  (.cond t33
  (.seq (.seq (.ops [.o 34 (.mv t7), .o 35 (.bin .gtr t34 (.c (.int .u64 9223372036854775807)))])
  (.cond t35
  (.seq (.ops [.o 4 (.mv (ci 0)), .o 5 (.mv (.c (.bool false)))])
  .ret)
  .skip))
  (.seq (.ops [.o 36 (.mv t7), .o 37 (.conv .i64 t36), .o 4 (.mv t37), .o 5 (.mv (.c (.bool true)))])
  .ret))
  .skip))
  (.seq (.seq (.ops [.o 38 (.mv t7), .o 39 (.bin .gtr t38 (.c (.int .u64 9223372036854775808)))])
  (.cond t39
  (.seq (.ops [.o 4 (.mv (ci 0)), .o 5 (.mv (.c (.bool false)))])
  .ret)
  .skip))
  (.seq (.seq (.ops [.o 40 (.mv t7), .o 41 (.bin .eql t40 (.c (.int .u64 0)))])
  (.cond t41
  (.seq (.ops [.o 4 (.mv (ci 0)), .o 5 (.mv (.c (.bool true)))])
  .ret)
  .skip))
  (.seq (.ops [.o 42 (.mv t7), .o 43 (.bin .sub t42 (.c (.int .u64 1))), .o 44 (.conv .i64 t43), .o 45 (.un .neg t44), .o 46 (.bin .sub t45 (ci 1)), .o 4 (.mv t46), .o 5 (.mv (.c (.bool true)))])
  .ret))))))))
theorem hc_r1_signed : compF Tryz.prog 47 Tryz.f83 = some (ic_r1_signed, [.t 4, .t 5]) := by kernel_rfl

theorem fn_r14_begin : Tryz.prog.funcs[r14_begin]? = some Tryz.f84 := Tryz.func84
theorem nt_r14_begin : Tryz.f84.ntmps = 17 := Tryz.ntmps84
def ic_r14_begin : IC := (.seq (.ops [.o 2 (.box t0), .o 3 (.box t1), .o 4 (.alloc (.st (.cons (.st (zc (zc (zc (zc (zc (zc (zc (zc (zc (zc (zc (zc (zc (zc (zc (zc (zc (.cons zs .nil))))))))))))))))))) (.cons (.st (zc (.cons (.st (zc (zc (zc (zc (zc (zc .nil))))))) (.cons zs (.cons (.st (.cons (.arr 12 1 fun _ => zi) .nil)) (.cons (.st (zc (zf (zc (zc (zc (zc (zc (zc (zc (zc (zc (zc (zc (zc (zc .nil)))))))))))))))) (zc (zc (zc (.cons (.st (zc (zc (zc (zc (zc .nil)))))) (zf (zc (zc .nil))))))))))))) (.cons (.st (zc (zc (zc (zc (zc .nil)))))) (.cons zs (zc .nil)))))))])
  (.seq (.ops [.o 8 (.ld true 18 t2), .o 9 (.call 17 [t8]), .o 7 (.mv t9), .o 10 (.ext 0 t7), .o 11 (.ext 1 t7), .o 5 (.mv t10), .o 6 (.mv t11)])
  (.seq (.dops [.o 12 (.ld true 18 t2), .o 13 (.ld true 46 t3), .o 14 (.call 132 [t13]), .o 15 (.mv t5), .o 16 (.build (.st (.cons (.st (zc (zc (zc (zc (zc (zc (zc (zc (zc (zc (zc (zc (zc (zc (zc (zc (zc (.cons zs .nil))))))))))))))))))) (.cons (.st (zc (.cons (.st (zc (zc (zc (zc (zc (zc .nil))))))) (.cons zs (.cons (.st (.cons (.arr 12 1 fun _ => zi) .nil)) (.cons (.st (zc (zf (zc (zc (zc (zc (zc (zc (zc (zc (zc (zc (zc (zc (zc .nil)))))))))))))))) (zc (zc (zc (.cons (.st (zc (zc (zc (zc (zc .nil)))))) (zf (zc (zc .nil))))))))))))) (.cons (.st (zc (zc (zc (zc (zc .nil)))))) (.cons zs (zc .nil)))))) [(0, 0, 18, t12), (1, 18, 46, t14), (4, 70, 1, t15)]), .n (.sto 71 t4 t16)])
  .ret)))
theorem hc_r14_begin : compF Tryz.prog 17 Tryz.f84 = some (ic_r14_begin, [.c 4 true 71]) := by kernel_rfl

theorem fn_r14_fail : Tryz.prog.funcs[r14_fail]? = some Tryz.f85 := Tryz.func85
theorem nt_r14_fail : Tryz.f85.ntmps = 16 := Tryz.ntmps85
def ic_r14_fail : IC := (.seq (.ops [.o 3 (.box t0), .o 6 (.alloc (.st (.cons (.st (zc (zc (zc (zc (zc (zc (zc (zc (zc (zc (zc (zc (zc (zc (zc (zc (zc (.cons zs .nil))))))))))))))))))) (.cons (.st (zc (.cons (.st (zc (zc (zc (zc (zc (zc .nil))))))) (.cons zs (.cons (.st (.cons (.arr 12 1 fun _ => zi) .nil)) (.cons (.st (zc (zf (zc (zc (zc (zc (zc (zc (zc (zc (zc (zc (zc (zc (zc .nil)))))))))))))))) (zc (zc (zc (.cons (.st (zc (zc (zc (zc (zc .nil)))))) (zf (zc (zc .nil))))))))))))) (.cons (.st (zc (zc (zc (zc (zc .nil)))))) (.cons zs (zc .nil)))))))])
  (.seq (.seq (.ops [.o 7 (.fa 4 70 t3), .o 8 (.ld false 1 t7), .o 9 (.bin .eql t8 (ci 0)), .o 10 (.mv t9), .og 11 10 true (.mv t1), .o 12 (.pick t10 t11 (.c (.bool false)))])
  (.cond t12
  (.ops [.o 13 (.mv t2), .o 14 (.fa 4 70 t3), .n (.sto 1 t14 t13)])
  .skip))
  (.seq (.ops [.o 15 (.ld true 71 t3), .n (.sto 71 t6 t15)])
  .ret)))
theorem hc_r14_fail : compF Tryz.prog 16 Tryz.f85 = some (ic_r14_fail, [.c 6 true 71]) := by kernel_rfl

theorem fn_r14_wrong : Tryz.prog.funcs[r14_wrong]? = some Tryz.f86 := Tryz.func86
theorem nt_r14_wrong : Tryz.f86.ntmps = 59 := Tryz.ntmps86
def ic_r14_wrong : IC := (.seq (.ops [.o 1 (.box t0), .o 2 (.mv (.c (.bool false)))])
  (.seq (.seq (.ops [.o 3 (.fa 0 0 t1), .o 4 (.ld false 1 t3), .o 5 (.bin .lss t4 (ci 0)), .o 6 (.mv t5), .og 7 6 false (.fa 0 0 t1), .og 8 6 false (.ld false 1 t7), .og 9 6 false (.bin .gtr t8 (ci 2)), .o 10 (.pick t6 (.c (.bool true)) t9), .o 11 (.mv t10), .og 12 11 false (.fa 1 1 t1), .og 13 11 false (.ld false 1 t12), .og 14 11 false (.bin .lss t13 (ci 1)), .o 15 (.pick t11 (.c (.bool true)) t14), .o 16 (.mv t15), .og 17 16 false (.fa 1 1 t1), .og 18 16 false (.ld false 1 t17), .og 19 16 false (.bin .gtr t18 (ci 10000000000000)), .o 20 (.pick t16 (.c (.bool true)) t19), .o 21 (.mv t20), .og 22 21 false (.fa 2 2 t1), .og 23 21 false (.ld false 1 t22), .og 24 21 false (.bin .lss t23 (ci 0)), .o 25 (.pick t21 (.c (.bool true)) t24), .o 26 (.mv t25), .og 27 26 false (.fa 2 2 t1), .og 28 26 false (.ld false 1 t27), .og 29 26 false (.bin .gtr t28 (ci 100000)), .o 30 (.pick t26 (.c (.bool true)) t29)])
  (.cond t30
  (.seq (.ops [.o 2 (.mv (.c (.bool true)))])
  .ret)
  .skip))
  (.seq (.ops [.o 31 (.fa 3 3 t1), .o 32 (.ld false 1 t31), .o 33 (.bin .lss t32 (ci 1)), .o 34 (.mv t33), .og 35 34 false (.fa 3 3 t1), .og 36 34 false (.ld false 1 t35), .og 37 34 false (.bin .gtr t36 (ci 120)), .o 38 (.pick t34 (.c (.bool true)) t37), .o 39 (.mv t38), .og 40 39 false (.fa 4 4 t1), .og 41 39 false (.ld false 1 t40), .og 42 39 false (.bin .lss t41 (ci 1)), .o 43 (.pick t39 (.c (.bool true)) t42), .o 44 (.mv t43), .og 45 44 false (.fa 4 4 t1), .og 46 44 false (.ld false 1 t45), .og 47 44 false (.bin .gtr t46 (ci 3652059)), .o 48 (.pick t44 (.c (.bool true)) t47), .o 49 (.mv t48), .og 50 49 false (.fa 5 5 t1), .og 51 49 false (.ld false 1 t50), .og 52 49 false (.bin .lss t51 (ci 0)), .o 53 (.pick t49 (.c (.bool true)) t52), .o 54 (.mv t53), .og 55 54 false (.fa 5 5 t1), .og 56 54 false (.ld false 1 t55), .og 57 54 false (.bin .gtr t56 (ci 3)), .o 58 (.pick t54 (.c (.bool true)) t57), .o 2 (.mv t58)])
  .ret)))
theorem hc_r14_wrong : compF Tryz.prog 59 Tryz.f86 = some (ic_r14_wrong, [.t 2]) := by kernel_rfl

theorem fn_r3_Plan : Tryz.prog.funcs[r3_Plan]? = some Tryz.f87 := Tryz.func87
theorem nt_r3_Plan : Tryz.f87.ntmps = 81 := Tryz.ntmps87
def ic_r3_Plan : IC := (.seq (.ops [.o 2 (.box t0), .o 4 (.mv (.c (.slice none 0 0))), .o 5 (.mv (.c (.bool false)))])
  (.seq (.seq (.ops [.o 15 (.ld true 6 t2), .o 16 (.call 133 [t15]), .o 17 (.un .not t16), .o 18 (.mv t17), .og 19 18 false (.mv t1), .og 20 18 false (.len t19), .og 21 18 false (.bin .gtr t20 (ci 64)), .o 22 (.pick t18 (.c (.bool true)) t21)])
  (.cond t22
  (.seq (.ops [.o 4 (.mv (.c (.slice none 0 0))), .o 5 (.mv (.c (.bool false)))])
  .ret)
  .skip))
  (.seq (.ops [.o 24 (.fa 1 1 t2), .o 25 (.ld false 1 t24), .o 26 (.fa 2 2 t2), .o 27 (.ld false 1 t26), .o 28 (.fa 3 3 t2), .o 29 (.ld false 1 t28), .o 30 (.call 134 [t25, t27, t29]), .o 23 (.mv t30), .o 31 (.ext 0 t23), .o 32 (.ext 1 t23), .o 6 (.mv t31), .o 7 (.mv t32)])
  (.seq (.ops [.o 8 (.mv (.c (.slice none 0 0)))])
  (.seq (.ops [.o 33 (.fa 1 1 t2), .o 34 (.ld false 1 t33), .o 9 (.mv t34)])
  (.seq (.seq (.ops [.o 10 (.mv (ci 1))])
  (.block 0 (.loop (.seq (.seq (.ops [.o 35 (.mv t10), .o 36 (.fa 3 3 t2), .o 37 (.ld false 1 t36), .o 38 (.bin .leq t35 t37)])
  (.cond t38
  .skip
  (.exit 0)))
  (.seq (.block 1 (.seq (.ops [.o 41 (.mv t9), .o 42 (.fa 2 2 t2), .o 43 (.ld false 1 t42), .o 44 (.call 135 [t41, t43]), .o 11 (.mv t44)])
  (.seq (.ops [.o 45 (.ld true 6 t2), .o 46 (.mv t6), .o 47 (.mv t10), .o 48 (.mv t9), .o 49 (.mv t11), .o 50 (.call 136 [t45, t46, t47, t48, t49]), .o 12 (.mv t50)])
  (.seq (.ops [.o 51 (.mv t9), .o 52 (.bin .gtr t51 (ci 0)), .o 53 (.mv t52), .og 54 53 true (.mv t11), .og 55 53 true (.bin .gtr t54 (ci 0)), .og 56 53 true (.mv t55), .og 57 56 false (.mv t12), .og 58 56 false (.bin .gtr t57 (ci 0)), .og 59 53 true (.pick t56 (.c (.bool true)) t58), .o 60 (.pick t53 t59 (.c (.bool false)))])
  (.cond t60
  (.seq (.ops [.o 62 (.ld true 6 t2), .o 63 (.mv t1), .o 64 (.mv t10), .o 65 (.call 137 [t62, t63, t64]), .o 61 (.mv t65), .o 66 (.ext 0 t61), .o 67 (.ext 1 t61), .o 13 (.mv t66), .o 14 (.mv t67)])
  (.seq (.seq (.ops [.o 68 (.mv t14), .o 69 (.un .not t68)])
  (.cond t69
  (.seq (.ops [.o 4 (.mv (.c (.slice none 0 0))), .o 5 (.mv (.c (.bool false)))])
  .ret)
  .skip))
  (.seq (.ops [.o 70 (.mv t8), .o 71 (.mv t13), .o 72 (.mv t11), .o 73 (.mv t12), .o 74 (.build (.st (zc (zc (zc (zf .nil))))) [(0, 0, 1, t71), (1, 1, 1, t72), (2, 2, 1, t73)]), .o 75 (.bsl 4 72 (.st (zc (zc (zc (zf .nil))))) [(0, 0, 4, t74)]), .o 76 (.app 4 32 72 t70 t75), .o 8 (.mv t76)])
  (.ops [.o 77 (.mv t9), .o 78 (.mv t12), .o 79 (.bin .sub t77 t78), .o 9 (.mv t79)]))))
  .skip)))))
  (.ops [.o 39 (.mv t10), .o 40 (.bin .add t39 (ci 1)), .o 10 (.mv t40)]))))))
  (.seq (.ops [.o 80 (.mv t8), .o 4 (.mv t80), .o 5 (.mv (.c (.bool true)))])
  .ret)))))))
theorem hc_r3_Plan : compF Tryz.prog 81 Tryz.f87 = some (ic_r3_Plan, [.t 4, .t 5]) := by kernel_rfl

theorem fn_r13_Fresh : Tryz.prog.funcs[r13_Fresh]? = some Tryz.f88 := Tryz.func88
theorem nt_r13_Fresh : Tryz.f88.ntmps = 2 := Tryz.ntmps88
def ic_r13_Fresh : IC := (.seq (.ops [.o 0 (.alloc (.st (zc (zf (zc (zc (zc (zc (zc (zc (zc (zc (zc (zc (zc (zc (zc .nil)))))))))))))))))])
  (.seq (.ops [.o 1 (.build (.st (zc (zf (zc (zc (zc (zc (zc (zc (zc (zc (zc (zc (zc (zc (zc .nil)))))))))))))))) [(0, 0, 1, (ci 1))]), .n (.sto 15 t0 t1)])
  .ret))
theorem hc_r13_Fresh : compF Tryz.prog 2 Tryz.f88 = some (ic_r13_Fresh, [.c 0 true 15]) := by kernel_rfl

theorem fn_r14_posted : Tryz.prog.funcs[r14_posted]? = some Tryz.f89 := Tryz.func89
theorem nt_r14_posted : Tryz.f89.ntmps = 25 := Tryz.ntmps89
def ic_r14_posted : IC := (.seq (.ops [.o 2 (.box t0), .o 4 (.alloc (.st (.cons (.st (zc (zc (zc (zc (zc (zc (zc (zc (zc (zc (zc (zc (zc (zc (zc (zc (zc (.cons zs .nil))))))))))))))))))) (.cons (.st (zc (.cons (.st (zc (zc (zc (zc (zc (zc .nil))))))) (.cons zs (.cons (.st (.cons (.arr 12 1 fun _ => zi) .nil)) (.cons (.st (zc (zf (zc (zc (zc (zc (zc (zc (zc (zc (zc (zc (zc (zc (zc .nil)))))))))))))))) (zc (zc (zc (.cons (.st (zc (zc (zc (zc (zc .nil)))))) (zf (zc (zc .nil))))))))))))) (.cons (.st (zc (zc (zc (zc (zc .nil)))))) (.cons zs (zc .nil)))))))])
  (.seq (.seq (.ops [.o 7 (.fa 4 70 t2), .o 8 (.ld false 1 t7), .o 9 (.bin .neq t8 (ci 0))])
  (.cond t9
  (.seq (.ops [.o 10 (.ld true 71 t2), .n (.sto 71 t4 t10)])
  .ret)
  .skip))
  (.seq (.ops [.o 12 (.fa 1 18 t2), .o 13 (.fa 3 8 t12), .o 14 (.ld true 12 t13), .o 15 (.mv t1), .o 16 (.call 138 [t14, t15]), .o 11 (.mv t16), .o 17 (.ext 0 t11), .o 18 (.ext 1 t11), .o 5 (.alloc (.st (.cons (.arr 12 1 fun _ => zi) .nil))), .n (.sto 12 t5 t17), .o 6 (.mv t18)])
  (.seq (.ops [.o 19 (.ld true 12 t5), .o 20 (.fa 1 18 t2), .o 21 (.fa 3 8 t20), .n (.sto 12 t21 t19)])
  (.seq (.ops [.o 22 (.mv t6), .o 23 (.fa 4 70 t2), .n (.sto 1 t23 t22)])
  (.seq (.ops [.o 24 (.ld true 71 t2), .n (.sto 71 t4 t24)])
  .ret))))))
theorem hc_r14_posted : compF Tryz.prog 25 Tryz.f89 = some (ic_r14_posted, [.c 4 true 71]) := by kernel_rfl

theorem fn_r14_move : Tryz.prog.funcs[r14_move]? = some Tryz.f90 := Tryz.func90
theorem nt_r14_move : Tryz.f90.ntmps = 19 := Tryz.ntmps90
def ic_r14_move : IC := (.seq (.ops [.o 8 (.mv (.c (.slice none 0 0)))])
  (.seq (.seq (.ops [.o 9 (.mv t3), .o 10 (.bin .eql t9 (ci 0))])
  (.cond t10
  (.seq (.ops [.o 11 (.mv t0), .o 8 (.mv t11)])
  .ret)
  .skip))
  (.seq (.ops [.o 12 (.mv t0), .o 13 (.mv t1), .o 14 (.mv t2), .o 15 (.mv t3), .o 16 (.build (.st (zc (zc (zc .nil)))) [(0, 0, 1, t13), (1, 1, 1, t14), (2, 2, 1, t15)]), .o 17 (.bsl 3 183 (.st (zc (zc (zc .nil)))) [(0, 0, 3, t16)]), .o 18 (.app 3 24 183 t12 t17), .o 8 (.mv t18)])
  .ret)))
theorem hc_r14_move : compF Tryz.prog 19 Tryz.f90 = some (ic_r14_move, [.t 8]) := by kernel_rfl

theorem fn_r14_done : Tryz.prog.funcs[r14_done]? = some Tryz.f91 := Tryz.func91
theorem nt_r14_done : Tryz.f91.ntmps = 20 := Tryz.ntmps91
def ic_r14_done : IC := (.seq (.ops [.o 2 (.box t0), .o 3 (.box t1), .o 4 (.alloc (.st (.cons (.st (zc (.cons (.st (zc (zc (zc (zc (zc (zc .nil))))))) (.cons zs (.cons (.st (.cons (.arr 12 1 fun _ => zi) .nil)) (.cons (.st (zc (zf (zc (zc (zc (zc (zc (zc (zc (zc (zc (zc (zc (zc (zc .nil)))))))))))))))) (zc (zc (zc (.cons (.st (zc (zc (zc (zc (zc .nil)))))) (zf (zc (zc .nil))))))))))))) (.cons (.st (zc (zc (zc (zc (zc .nil)))))) (.cons zs (zc .nil))))))])
  (.seq (.seq (.ops [.o 5 (.fa 4 70 t2), .o 6 (.ld false 1 t5), .o 7 (.bin .neq t6 (ci 0))])
  (.cond t7
  (.seq (.dops [.o 8 (.ld true 46 t3), .o 9 (.call 132 [t8]), .o 10 (.fa 4 70 t2), .o 11 (.ld false 1 t10), .o 12 (.build (.st (.cons (.st (zc (.cons (.st (zc (zc (zc (zc (zc (zc .nil))))))) (.cons zs (.cons (.st (.cons (.arr 12 1 fun _ => zi) .nil)) (.cons (.st (zc (zf (zc (zc (zc (zc (zc (zc (zc (zc (zc (zc (zc (zc (zc .nil)))))))))))))))) (zc (zc (zc (.cons (.st (zc (zc (zc (zc (zc .nil)))))) (zf (zc (zc .nil))))))))))))) (.cons (.st (zc (zc (zc (zc (zc .nil)))))) (.cons zs (zc .nil))))) [(0, 0, 46, t9), (3, 52, 1, t11)]), .n (.sto 53 t4 t12)])
  .ret)
  .skip))
  (.seq (.ops [.o 13 (.fa 1 18 t2), .o 14 (.ld true 46 t13), .o 15 (.fa 2 64 t2), .o 16 (.ld true 5 t15), .o 17 (.fa 3 69 t2), .o 18 (.ld false 1 t17), .o 19 (.build (.st (.cons (.st (zc (.cons (.st (zc (zc (zc (zc (zc (zc .nil))))))) (.cons zs (.cons (.st (.cons (.arr 12 1 fun _ => zi) .nil)) (.cons (.st (zc (zf (zc (zc (zc (zc (zc (zc (zc (zc (zc (zc (zc (zc (zc .nil)))))))))))))))) (zc (zc (zc (.cons (.st (zc (zc (zc (zc (zc .nil)))))) (zf (zc (zc .nil))))))))))))) (.cons (.st (zc (zc (zc (zc (zc .nil)))))) (.cons zs (zc .nil))))) [(0, 0, 46, t14), (1, 46, 5, t16), (2, 51, 1, t18)]), .n (.sto 53 t4 t19)])
  .ret)))
theorem hc_r14_done : compF Tryz.prog 20 Tryz.f91 = some (ic_r14_done, [.c 4 true 53]) := by kernel_rfl

theorem fn_r14_Roll : Tryz.prog.funcs[r14_Roll]? = some Tryz.f92 := Tryz.func92
theorem nt_r14_Roll : Tryz.f92.ntmps = 39 := Tryz.ntmps92
def ic_r14_Roll : IC := (.seq (.ops [.o 2 (.box t0), .o 3 (.box t1), .o 4 (.alloc (.st (.cons (.st (zc (.cons (.st (zc (zc (zc (zc (zc (zc .nil))))))) (.cons zs (.cons (.st (.cons (.arr 12 1 fun _ => zi) .nil)) (.cons (.st (zc (zf (zc (zc (zc (zc (zc (zc (zc (zc (zc (zc (zc (zc (zc .nil)))))))))))))))) (zc (zc (zc (.cons (.st (zc (zc (zc (zc (zc .nil)))))) (zf (zc (zc .nil))))))))))))) (.cons (.st (zc (zc (zc (zc (zc .nil)))))) (.cons zs (zc .nil))))))])
  (.seq (.ops [.o 6 (.ld true 18 t2), .o 7 (.ld true 46 t3), .o 8 (.call 84 [t6, t7]), .o 5 (.alloc (.st (.cons (.st (zc (zc (zc (zc (zc (zc (zc (zc (zc (zc (zc (zc (zc (zc (zc (zc (zc (.cons zs .nil))))))))))))))))))) (.cons (.st (zc (.cons (.st (zc (zc (zc (zc (zc (zc .nil))))))) (.cons zs (.cons (.st (.cons (.arr 12 1 fun _ => zi) .nil)) (.cons (.st (zc (zf (zc (zc (zc (zc (zc (zc (zc (zc (zc (zc (zc (zc (zc .nil)))))))))))))))) (zc (zc (zc (.cons (.st (zc (zc (zc (zc (zc .nil)))))) (zf (zc (zc .nil))))))))))))) (.cons (.st (zc (zc (zc (zc (zc .nil)))))) (.cons zs (zc .nil))))))), .n (.sto 71 t5 t8)])
  (.seq (.ops [.o 9 (.ld true 71 t5), .o 10 (.fa 5 35 t3), .o 11 (.ld false 1 t10), .o 12 (.bin .geq t11 (ci 3652059)), .o 13 (.call 85 [t9, t12, (ci 141)]), .n (.sto 71 t5 t13)])
  (.seq (.ops [.o 14 (.ld true 71 t5), .o 15 (.call 139 [t14, (ci 1)]), .n (.sto 71 t5 t15)])
  (.seq (.seq (.ops [.o 16 (.fa 4 70 t5), .o 17 (.ld false 1 t16), .o 18 (.bin .neq t17 (ci 0)), .o 19 (.mv t18), .og 20 19 false (.ld true 46 t3), .og 21 19 false (.call 140 [t20]), .o 22 (.pick t19 (.c (.bool true)) t21)])
  (.cond t22
  (.seq (.ops [.o 23 (.ld true 71 t5), .o 24 (.ld true 46 t3), .o 25 (.call 91 [t23, t24]), .n (.sto 53 t4 t25)])
  .ret)
  .skip))
  (.seq (.dops [.o 26 (.ld true 71 t5), .o 27 (.fa 1 18 t5), .o 28 (.fa 5 35 t27), .o 29 (.ld false 1 t28), .o 30 (.fa 1 18 t5), .o 31 (.ld true 46 t30), .o 32 (.call 43 [t31]), .o 33 (.build (.st (zc (zc (zc (zc .nil))))) [(0, 0, 1, (ci 1)), (1, 1, 1, t29), (2, 2, 1, t32)]), .o 34 (.call 141 [t26, t33]), .n (.sto 71 t5 t34)])
  (.seq (.dops [.o 35 (.ld true 71 t5), .o 36 (.call 142 [t35]), .o 37 (.ld true 46 t3), .o 38 (.call 91 [t36, t37]), .n (.sto 53 t4 t38)])
  .ret)))))))
theorem hc_r14_Roll : compF Tryz.prog 39 Tryz.f92 = some (ic_r14_Roll, [.c 4 true 53]) := by kernel_rfl

theorem fn_r14_Pay : Tryz.prog.funcs[r14_Pay]? = some Tryz.f93 := Tryz.func93
theorem nt_r14_Pay : Tryz.f93.ntmps = 72 := Tryz.ntmps93
def ic_r14_Pay : IC := (.seq (.ops [.o 3 (.box t0), .o 4 (.box t1), .o 6 (.alloc (.st (.cons (.st (zc (.cons (.st (zc (zc (zc (zc (zc (zc .nil))))))) (.cons zs (.cons (.st (.cons (.arr 12 1 fun _ => zi) .nil)) (.cons (.st (zc (zf (zc (zc (zc (zc (zc (zc (zc (zc (zc (zc (zc (zc (zc .nil)))))))))))))))) (zc (zc (zc (.cons (.st (zc (zc (zc (zc (zc .nil)))))) (zf (zc (zc .nil))))))))))))) (.cons (.st (zc (zc (zc (zc (zc .nil)))))) (.cons zs (zc .nil))))))])
  (.seq (.ops [.o 10 (.ld true 18 t3), .o 11 (.ld true 46 t4), .o 12 (.call 84 [t10, t11]), .o 7 (.alloc (.st (.cons (.st (zc (zc (zc (zc (zc (zc (zc (zc (zc (zc (zc (zc (zc (zc (zc (zc (zc (.cons zs .nil))))))))))))))))))) (.cons (.st (zc (.cons (.st (zc (zc (zc (zc (zc (zc .nil))))))) (.cons zs (.cons (.st (.cons (.arr 12 1 fun _ => zi) .nil)) (.cons (.st (zc (zf (zc (zc (zc (zc (zc (zc (zc (zc (zc (zc (zc (zc (zc .nil)))))))))))))))) (zc (zc (zc (.cons (.st (zc (zc (zc (zc (zc .nil)))))) (zf (zc (zc .nil))))))))))))) (.cons (.st (zc (zc (zc (zc (zc .nil)))))) (.cons zs (zc .nil))))))), .n (.sto 71 t7 t12)])
  (.seq (.ops [.o 13 (.ld true 71 t7), .o 14 (.mv t2), .o 15 (.bin .lss t14 (ci 1)), .o 16 (.call 85 [t13, t15, (ci 4)]), .n (.sto 71 t7 t16)])
  (.seq (.ops [.o 18 (.ld true 18 t3), .o 19 (.ld true 46 t4), .o 20 (.mv t2), .o 21 (.call 143 [t18, t19, t20]), .o 17 (.mv t21), .o 22 (.ext 0 t17), .o 23 (.ext 1 t17), .o 8 (.alloc (.st (zc (zc (zc (zc (zc .nil))))))), .n (.sto 5 t8 t22), .o 9 (.mv t23)])
  (.seq (.ops [.o 24 (.ld true 71 t7), .o 25 (.mv t9), .o 26 (.bin .neq t25 (ci 0)), .o 27 (.mv t9), .o 28 (.call 85 [t24, t26, t27]), .n (.sto 71 t7 t28)])
  (.seq (.dops [.o 29 (.ld true 71 t7), .o 30 (.ld true 5 t8), .o 31 (.call 144 [t30]), .o 32 (.call 89 [t29, t31]), .n (.sto 71 t7 t32)])
  (.seq (.ops [.o 33 (.ld true 5 t8), .o 34 (.fa 2 64 t7), .n (.sto 5 t34 t33)])
  (.seq (.seq (.ops [.o 35 (.fa 4 70 t7), .o 36 (.ld false 1 t35), .o 37 (.bin .neq t36 (ci 0)), .o 38 (.mv t37), .og 39 38 false (.ld true 46 t4), .og 40 38 false (.call 140 [t39]), .o 41 (.pick t38 (.c (.bool true)) t40)])
  (.cond t41
  (.seq (.ops [.o 42 (.ld true 71 t7), .o 43 (.ld true 46 t4), .o 44 (.call 91 [t42, t43]), .n (.sto 53 t6 t44)])
  .ret)
  .skip))
  (.seq (.ops [.o 45 (.fa 1 18 t7), .o 46 (.fa 7 37 t45), .o 47 (.ld false 1 t46), .o 48 (.fa 1 1 t8), .o 49 (.ld false 1 t48), .o 50 (.bin .add t47 t49), .o 51 (.fa 2 2 t8), .o 52 (.ld false 1 t51), .o 53 (.bin .add t50 t52), .o 54 (.fa 1 18 t7), .o 55 (.fa 7 37 t54), .n (.sto 1 t55 t53)])
  (.seq (.ops [.o 56 (.ld true 5 t8), .o 57 (.fa 1 18 t7), .o 58 (.fa 8 38 t57), .n (.sto 5 t58 t56)])
  (.seq (.ops [.o 59 (.fa 1 18 t7), .o 60 (.fa 9 43 t59), .n (.sto 1 t60 (.c (.bool true)))])
  (.seq (.dops [.o 61 (.ld true 71 t7), .o 62 (.mv t2), .o 63 (.fa 1 18 t7), .o 64 (.ld true 46 t63), .o 65 (.call 43 [t64]), .o 66 (.build (.st (zc (zc (zc (zc .nil))))) [(0, 0, 1, (ci 2)), (3, 3, 1, t62), (2, 2, 1, t65)]), .o 67 (.call 141 [t61, t66]), .n (.sto 71 t7 t67)])
  (.seq (.dops [.o 68 (.ld true 71 t7), .o 69 (.call 145 [t68]), .o 70 (.ld true 46 t4), .o 71 (.call 91 [t69, t70]), .n (.sto 53 t6 t71)])
  .ret)))))))))))))
theorem hc_r14_Pay : compF Tryz.prog 72 Tryz.f93 = some (ic_r14_Pay, [.c 6 true 53]) := by kernel_rfl

theorem fn_r14_Return : Tryz.prog.funcs[r14_Return]? = some Tryz.f94 := Tryz.func94
theorem nt_r14_Return : Tryz.f94.ntmps = 63 := Tryz.ntmps94
def ic_r14_Return : IC := (.seq (.ops [.o 2 (.box t0), .o 3 (.box t1), .o 4 (.alloc (.st (.cons (.st (zc (.cons (.st (zc (zc (zc (zc (zc (zc .nil))))))) (.cons zs (.cons (.st (.cons (.arr 12 1 fun _ => zi) .nil)) (.cons (.st (zc (zf (zc (zc (zc (zc (zc (zc (zc (zc (zc (zc (zc (zc (zc .nil)))))))))))))))) (zc (zc (zc (.cons (.st (zc (zc (zc (zc (zc .nil)))))) (zf (zc (zc .nil))))))))))))) (.cons (.st (zc (zc (zc (zc (zc .nil)))))) (.cons zs (zc .nil))))))])
  (.seq (.ops [.o 8 (.ld true 18 t2), .o 9 (.ld true 46 t3), .o 10 (.call 84 [t8, t9]), .o 5 (.alloc (.st (.cons (.st (zc (zc (zc (zc (zc (zc (zc (zc (zc (zc (zc (zc (zc (zc (zc (zc (zc (.cons zs .nil))))))))))))))))))) (.cons (.st (zc (.cons (.st (zc (zc (zc (zc (zc (zc .nil))))))) (.cons zs (.cons (.st (.cons (.arr 12 1 fun _ => zi) .nil)) (.cons (.st (zc (zf (zc (zc (zc (zc (zc (zc (zc (zc (zc (zc (zc (zc (zc .nil)))))))))))))))) (zc (zc (zc (.cons (.st (zc (zc (zc (zc (zc .nil)))))) (zf (zc (zc .nil))))))))))))) (.cons (.st (zc (zc (zc (zc (zc .nil)))))) (.cons zs (zc .nil))))))), .n (.sto 71 t5 t10)])
  (.seq (.dops [.o 11 (.ld true 71 t5), .o 12 (.ld true 46 t3), .o 13 (.call 140 [t12]), .o 14 (.call 85 [t11, t13, (ci 130)]), .n (.sto 71 t5 t14)])
  (.seq (.ops [.o 15 (.ld true 71 t5), .o 16 (.fa 9 43 t3), .o 17 (.ld false 1 t16), .o 18 (.un .not t17), .o 19 (.call 85 [t15, t18, (ci 142)]), .n (.sto 71 t5 t19)])
  (.seq (.ops [.o 20 (.fa 8 38 t3), .o 21 (.ld true 5 t20), .o 6 (.alloc (.st (zc (zc (zc (zc (zc .nil))))))), .n (.sto 5 t6 t21)])
  (.seq (.ops [.o 22 (.fa 0 0 t6), .o 23 (.ld false 1 t22), .o 24 (.fa 1 1 t6), .o 25 (.ld false 1 t24), .o 26 (.bin .add t23 t25), .o 27 (.fa 2 2 t6), .o 28 (.ld false 1 t27), .o 29 (.bin .add t26 t28), .o 30 (.fa 3 3 t6), .o 31 (.ld false 1 t30), .o 32 (.bin .add t29 t31), .o 33 (.fa 4 4 t6), .o 34 (.ld false 1 t33), .o 35 (.bin .add t32 t34), .o 7 (.mv t35)])
  (.seq (.dops [.o 36 (.ld true 71 t5), .o 37 (.ld true 5 t6), .o 38 (.call 146 [t37]), .o 39 (.call 89 [t36, t38]), .n (.sto 71 t5 t39)])
  (.seq (.ops [.o 40 (.fa 1 18 t5), .o 41 (.fa 7 37 t40), .o 42 (.ld false 1 t41), .o 43 (.fa 1 1 t6), .o 44 (.ld false 1 t43), .o 45 (.bin .sub t42 t44), .o 46 (.fa 2 2 t6), .o 47 (.ld false 1 t46), .o 48 (.bin .sub t45 t47), .o 49 (.fa 1 18 t5), .o 50 (.fa 7 37 t49), .n (.sto 1 t50 t48)])
  (.seq (.ops [.o 51 (.ld true 5 t6), .o 52 (.fa 2 64 t5), .n (.sto 5 t52 t51)])
  (.seq (.ops [.o 53 (.ld true 71 t5), .o 54 (.mv t7), .o 55 (.build (.st (zc (zc (zc (zc .nil))))) [(0, 0, 1, (ci 3)), (3, 3, 1, t54)]), .o 56 (.call 141 [t53, t55]), .n (.sto 71 t5 t56)])
  (.seq (.dops [.o 57 (.ld true 71 t5), .o 58 (.mv t7), .o 59 (.call 148 [t57, (ci 9), t58]), .o 60 (.call 147 [t59]), .o 61 (.ld true 46 t3), .o 62 (.call 91 [t60, t61]), .n (.sto 53 t4 t62)])
  .ret)))))))))))
theorem hc_r14_Return : compF Tryz.prog 63 Tryz.f94 = some (ic_r14_Return, [.c 4 true 53]) := by kernel_rfl

theorem fn_r14_Refund : Tryz.prog.funcs[r14_Refund]? = some Tryz.f95 := Tryz.func95
theorem nt_r14_Refund : Tryz.f95.ntmps = 27 := Tryz.ntmps95
def ic_r14_Refund : IC := (.seq (.ops [.o 3 (.box t0), .o 4 (.box t1), .o 6 (.alloc (.st (.cons (.st (zc (.cons (.st (zc (zc (zc (zc (zc (zc .nil))))))) (.cons zs (.cons (.st (.cons (.arr 12 1 fun _ => zi) .nil)) (.cons (.st (zc (zf (zc (zc (zc (zc (zc (zc (zc (zc (zc (zc (zc (zc (zc .nil)))))))))))))))) (zc (zc (zc (.cons (.st (zc (zc (zc (zc (zc .nil)))))) (zf (zc (zc .nil))))))))))))) (.cons (.st (zc (zc (zc (zc (zc .nil)))))) (.cons zs (zc .nil))))))])
  (.seq (.ops [.o 8 (.ld true 18 t3), .o 9 (.ld true 46 t4), .o 10 (.call 84 [t8, t9]), .o 7 (.alloc (.st (.cons (.st (zc (zc (zc (zc (zc (zc (zc (zc (zc (zc (zc (zc (zc (zc (zc (zc (zc (.cons zs .nil))))))))))))))))))) (.cons (.st (zc (.cons (.st (zc (zc (zc (zc (zc (zc .nil))))))) (.cons zs (.cons (.st (.cons (.arr 12 1 fun _ => zi) .nil)) (.cons (.st (zc (zf (zc (zc (zc (zc (zc (zc (zc (zc (zc (zc (zc (zc (zc .nil)))))))))))))))) (zc (zc (zc (.cons (.st (zc (zc (zc (zc (zc .nil)))))) (zf (zc (zc .nil))))))))))))) (.cons (.st (zc (zc (zc (zc (zc .nil)))))) (.cons zs (zc .nil))))))), .n (.sto 71 t7 t10)])
  (.seq (.ops [.o 11 (.ld true 71 t7), .o 12 (.mv t2), .o 13 (.bin .lss t12 (ci 1)), .o 14 (.call 85 [t11, t13, (ci 4)]), .n (.sto 71 t7 t14)])
  (.seq (.dops [.o 15 (.ld true 71 t7), .o 16 (.mv t2), .o 17 (.ld true 46 t4), .o 18 (.call 46 [t17, (ci 4)]), .o 19 (.bin .gtr t16 t18), .o 20 (.call 85 [t15, t19, (ci 143)]), .n (.sto 71 t7 t20)])
  (.seq (.dops [.o 21 (.ld true 71 t7), .o 22 (.mv t2), .o 23 (.call 90 [(.c (.slice none 0 0)), (ci 4), (ci 0), t22]), .o 24 (.call 89 [t21, t23]), .o 25 (.ld true 46 t4), .o 26 (.call 91 [t24, t25]), .n (.sto 53 t6 t26)])
  .ret)))))
theorem hc_r14_Refund : compF Tryz.prog 27 Tryz.f95 = some (ic_r14_Refund, [.c 6 true 53]) := by kernel_rfl

theorem fn_r14_Waive : Tryz.prog.funcs[r14_Waive]? = some Tryz.f96 := Tryz.func96
theorem nt_r14_Waive : Tryz.f96.ntmps = 33 := Tryz.ntmps96
def ic_r14_Waive : IC := (.seq (.ops [.o 3 (.box t0), .o 4 (.box t1), .o 6 (.alloc (.st (.cons (.st (zc (.cons (.st (zc (zc (zc (zc (zc (zc .nil))))))) (.cons zs (.cons (.st (.cons (.arr 12 1 fun _ => zi) .nil)) (.cons (.st (zc (zf (zc (zc (zc (zc (zc (zc (zc (zc (zc (zc (zc (zc (zc .nil)))))))))))))))) (zc (zc (zc (.cons (.st (zc (zc (zc (zc (zc .nil)))))) (zf (zc (zc .nil))))))))))))) (.cons (.st (zc (zc (zc (zc (zc .nil)))))) (.cons zs (zc .nil))))))])
  (.seq (.ops [.o 8 (.ld true 18 t3), .o 9 (.ld true 46 t4), .o 10 (.call 84 [t8, t9]), .o 7 (.alloc (.st (.cons (.st (zc (zc (zc (zc (zc (zc (zc (zc (zc (zc (zc (zc (zc (zc (zc (zc (zc (.cons zs .nil))))))))))))))))))) (.cons (.st (zc (.cons (.st (zc (zc (zc (zc (zc (zc .nil))))))) (.cons zs (.cons (.st (.cons (.arr 12 1 fun _ => zi) .nil)) (.cons (.st (zc (zf (zc (zc (zc (zc (zc (zc (zc (zc (zc (zc (zc (zc (zc .nil)))))))))))))))) (zc (zc (zc (.cons (.st (zc (zc (zc (zc (zc .nil)))))) (zf (zc (zc .nil))))))))))))) (.cons (.st (zc (zc (zc (zc (zc .nil)))))) (.cons zs (zc .nil))))))), .n (.sto 71 t7 t10)])
  (.seq (.ops [.o 11 (.ld true 71 t7), .o 12 (.mv t2), .o 13 (.bin .lss t12 (ci 1)), .o 14 (.call 85 [t11, t13, (ci 4)]), .n (.sto 71 t7 t14)])
  (.seq (.dops [.o 15 (.ld true 71 t7), .o 16 (.ld true 46 t4), .o 17 (.call 140 [t16]), .o 18 (.call 85 [t15, t17, (ci 130)]), .n (.sto 71 t7 t18)])
  (.seq (.dops [.o 19 (.ld true 71 t7), .o 20 (.mv t2), .o 21 (.ld true 46 t4), .o 22 (.call 46 [t21, (ci 3)]), .o 23 (.bin .gtr t20 t22), .o 24 (.call 85 [t19, t23, (ci 143)]), .n (.sto 71 t7 t24)])
  (.seq (.dops [.o 25 (.ld true 71 t7), .o 26 (.mv t2), .o 27 (.call 90 [(.c (.slice none 0 0)), (ci 11), (ci 3), t26]), .o 28 (.call 89 [t25, t27]), .n (.sto 71 t7 t28)])
  (.seq (.dops [.o 29 (.ld true 71 t7), .o 30 (.call 145 [t29]), .o 31 (.ld true 46 t4), .o 32 (.call 91 [t30, t31]), .n (.sto 53 t6 t32)])
  .ret)))))))
theorem hc_r14_Waive : compF Tryz.prog 33 Tryz.f96 = some (ic_r14_Waive, [.c 6 true 53]) := by kernel_rfl

theorem fn_r14_Promise : Tryz.prog.funcs[r14_Promise]? = some Tryz.f97 := Tryz.func97
theorem nt_r14_Promise : Tryz.f97.ntmps = 22 := Tryz.ntmps97
def ic_r14_Promise : IC := (.seq (.ops [.o 4 (.box t0), .o 5 (.box t1), .o 8 (.alloc (.st (.cons (.st (zc (.cons (.st (zc (zc (zc (zc (zc (zc .nil))))))) (.cons zs (.cons (.st (.cons (.arr 12 1 fun _ => zi) .nil)) (.cons (.st (zc (zf (zc (zc (zc (zc (zc (zc (zc (zc (zc (zc (zc (zc (zc .nil)))))))))))))))) (zc (zc (zc (.cons (.st (zc (zc (zc (zc (zc .nil)))))) (zf (zc (zc .nil))))))))))))) (.cons (.st (zc (zc (zc (zc (zc .nil)))))) (.cons zs (zc .nil))))))])
  (.seq (.dops [.o 10 (.ld true 18 t4), .o 11 (.ld true 46 t5), .o 12 (.call 84 [t10, t11]), .o 13 (.fa 5 35 t5), .o 14 (.ld false 1 t13), .o 15 (.mv t3), .o 16 (.mv t2), .o 17 (.build (.st (zc (zc (zc (zc .nil))))) [(0, 0, 1, (ci 4)), (1, 1, 1, t14), (2, 2, 1, t15), (3, 3, 1, t16)]), .o 18 (.call 141 [t12, t17]), .o 9 (.alloc (.st (.cons (.st (zc (zc (zc (zc (zc (zc (zc (zc (zc (zc (zc (zc (zc (zc (zc (zc (zc (.cons zs .nil))))))))))))))))))) (.cons (.st (zc (.cons (.st (zc (zc (zc (zc (zc (zc .nil))))))) (.cons zs (.cons (.st (.cons (.arr 12 1 fun _ => zi) .nil)) (.cons (.st (zc (zf (zc (zc (zc (zc (zc (zc (zc (zc (zc (zc (zc (zc (zc .nil)))))))))))))))) (zc (zc (zc (.cons (.st (zc (zc (zc (zc (zc .nil)))))) (zf (zc (zc .nil))))))))))))) (.cons (.st (zc (zc (zc (zc (zc .nil)))))) (.cons zs (zc .nil))))))), .n (.sto 71 t9 t18)])
  (.seq (.ops [.o 19 (.ld true 71 t9), .o 20 (.ld true 46 t5), .o 21 (.call 91 [t19, t20]), .n (.sto 53 t8 t21)])
  .ret)))
theorem hc_r14_Promise : compF Tryz.prog 22 Tryz.f97 = some (ic_r14_Promise, [.c 8 true 53]) := by kernel_rfl

theorem fn_r14_Restructure : Tryz.prog.funcs[r14_Restructure]? = some Tryz.f98 := Tryz.func98
theorem nt_r14_Restructure : Tryz.f98.ntmps = 104 := Tryz.ntmps98
def ic_r14_Restructure : IC := (.seq (.ops [.o 4 (.box t0), .o 5 (.box t1), .o 8 (.alloc (.st (.cons (.st (zc (.cons (.st (zc (zc (zc (zc (zc (zc .nil))))))) (.cons zs (.cons (.st (.cons (.arr 12 1 fun _ => zi) .nil)) (.cons (.st (zc (zf (zc (zc (zc (zc (zc (zc (zc (zc (zc (zc (zc (zc (zc .nil)))))))))))))))) (zc (zc (zc (.cons (.st (zc (zc (zc (zc (zc .nil)))))) (zf (zc (zc .nil))))))))))))) (.cons (.st (zc (zc (zc (zc (zc .nil)))))) (.cons zs (zc .nil))))))])
  (.seq (.ops [.o 15 (.ld true 18 t4), .o 16 (.ld true 46 t5), .o 17 (.call 84 [t15, t16]), .o 9 (.alloc (.st (.cons (.st (zc (zc (zc (zc (zc (zc (zc (zc (zc (zc (zc (zc (zc (zc (zc (zc (zc (.cons zs .nil))))))))))))))))))) (.cons (.st (zc (.cons (.st (zc (zc (zc (zc (zc (zc .nil))))))) (.cons zs (.cons (.st (.cons (.arr 12 1 fun _ => zi) .nil)) (.cons (.st (zc (zf (zc (zc (zc (zc (zc (zc (zc (zc (zc (zc (zc (zc (zc .nil)))))))))))))))) (zc (zc (zc (.cons (.st (zc (zc (zc (zc (zc .nil)))))) (zf (zc (zc .nil))))))))))))) (.cons (.st (zc (zc (zc (zc (zc .nil)))))) (.cons zs (zc .nil))))))), .n (.sto 71 t9 t17)])
  (.seq (.ops [.o 18 (.ld true 71 t9), .o 19 (.mv t2), .o 20 (.bin .lss t19 (ci 1)), .o 21 (.mv t20), .og 22 21 false (.mv t2), .og 23 21 false (.bin .gtr t22 (ci 120)), .o 24 (.pick t21 (.c (.bool true)) t23), .o 25 (.mv t24), .og 26 25 false (.mv t3), .og 27 25 false (.bin .lss t26 (ci 0)), .o 28 (.pick t25 (.c (.bool true)) t27), .o 29 (.mv t28), .og 30 29 false (.mv t3), .og 31 29 false (.bin .gtr t30 (ci 100000)), .o 32 (.pick t29 (.c (.bool true)) t31), .o 33 (.call 85 [t18, t32, (ci 140)]), .n (.sto 71 t9 t33)])
  (.seq (.ops [.o 34 (.ld true 71 t9), .o 35 (.build (.st (zc (zc (zc (zc .nil))))) [(0, 0, 1, (ci 5))]), .o 36 (.call 141 [t34, t35]), .n (.sto 71 t9 t36)])
  (.seq (.ops [.o 37 (.ld true 46 t5), .o 38 (.call 149 [t37]), .o 10 (.alloc (.st (zc (zc (zc .nil))))), .n (.sto 3 t10 t38)])
  (.seq (.dops [.o 39 (.ld true 71 t9), .o 40 (.ld true 3 t10), .o 41 (.call 150 [t40]), .o 42 (.bin .gtr t41 (ci 10000000000000)), .o 43 (.call 85 [t39, t42, (ci 3)]), .n (.sto 71 t9 t43)])
  (.seq (.seq (.ops [.o 44 (.fa 4 70 t9), .o 45 (.ld false 1 t44), .o 46 (.bin .neq t45 (ci 0))])
  (.cond t46
  (.seq (.ops [.o 47 (.ld true 71 t9), .o 48 (.ld true 46 t5), .o 49 (.call 91 [t47, t48]), .n (.sto 53 t8 t49)])
  .ret)
  .skip))
  (.seq (.dops [.o 50 (.fa 1 1 t5), .o 51 (.fa 0 0 t50), .o 52 (.ld false 1 t51), .o 53 (.ld true 3 t10), .o 54 (.call 150 [t53]), .o 55 (.mv t3), .o 56 (.mv t2), .o 57 (.fa 5 35 t5), .o 58 (.ld false 1 t57), .o 59 (.fa 1 1 t5), .o 60 (.fa 5 5 t59), .o 61 (.ld false 1 t60), .o 62 (.build (.st (zc (zc (zc (zc (zc (zc .nil))))))) [(0, 0, 1, t52), (1, 1, 1, t54), (2, 2, 1, t55), (3, 3, 1, t56), (4, 4, 1, t58), (5, 5, 1, t61)]), .o 11 (.alloc (.st (zc (zc (zc (zc (zc (zc .nil)))))))), .n (.sto 6 t11 t62)])
  (.seq (.ops [.o 64 (.ld true 6 t11), .o 65 (.fa 17 17 t4), .o 66 (.ld false 1 t65), .o 67 (.call 87 [t64, t66]), .o 63 (.mv t67), .o 68 (.ext 0 t63), .o 69 (.ext 1 t63), .o 12 (.mv t68), .o 13 (.mv t69)])
  (.seq (.ops [.o 70 (.ld true 71 t9), .o 71 (.mv t13), .o 72 (.un .not t71), .o 73 (.call 85 [t70, t72, (ci 141)]), .n (.sto 71 t9 t73)])
  (.seq (.ops [.o 14 (.mv (.c (.slice none 0 0)))])
  (.seq (.ops [.o 74 (.mv t14), .o 75 (.fa 1 1 t10), .o 76 (.ld false 1 t75), .o 77 (.call 90 [t74, (ci 1), (ci 2), t76]), .o 14 (.mv t77)])
  (.seq (.ops [.o 78 (.mv t14), .o 79 (.fa 0 0 t10), .o 80 (.ld false 1 t79), .o 81 (.call 90 [t78, (ci 1), (ci 3), t80]), .o 14 (.mv t81)])
  (.seq (.ops [.o 82 (.mv t14), .o 83 (.ld true 46 t5), .o 84 (.call 46 [t83, (ci 5)]), .o 85 (.call 90 [t82, (ci 5), (ci 7), t84]), .o 14 (.mv t85)])
  (.seq (.ops [.o 86 (.ld true 71 t9), .o 87 (.mv t14), .o 88 (.call 89 [t86, t87]), .n (.sto 71 t9 t88)])
  (.seq (.ops [.o 89 (.ld true 6 t11), .o 90 (.fa 1 18 t9), .o 91 (.fa 1 1 t90), .n (.sto 6 t91 t89)])
  (.seq (.ops [.o 92 (.mv t12), .o 93 (.fa 1 18 t9), .o 94 (.fa 2 7 t93), .n (.sto 1 t94 t92)])
  (.seq (.ops [.o 95 (.fa 1 18 t9), .o 96 (.fa 7 37 t95), .n (.sto 1 t96 (ci 0))])
  (.seq (.dops [.o 97 (.ld true 71 t9), .o 98 (.call 147 [t97]), .o 99 (.fa 1 1 t11), .o 100 (.ld false 1 t99), .o 101 (.call 148 [t98, (ci 7), t100]), .o 102 (.ld true 46 t5), .o 103 (.call 91 [t101, t102]), .n (.sto 53 t8 t103)])
  .ret)))))))))))))))))))
theorem hc_r14_Restructure : compF Tryz.prog 104 Tryz.f98 = some (ic_r14_Restructure, [.c 8 true 53]) := by kernel_rfl

theorem fn_arrears_policy_between_int_ : Tryz.prog.funcs[arrears_policy_between_int_]? = some Tryz.f99 := Tryz.func99
theorem nt_arrears_policy_between_int_ : Tryz.f99.ntmps = 9 := Tryz.ntmps99
def ic_arrears_policy_between_int_ : IC := (.seq (.ops [.o 3 (.box t0), .o 4 (.box t1), .o 5 (.box t2), .o 6 (.alloc (.st (.cons (.val (.nilFunc)) .nil)))])
  (.seq (.ops [.o 7 (.mkf (.func 151) [] [t3, t4, t5]), .o 8 (.build (.st (.cons (.val (.nilFunc)) .nil)) [(0, 0, 1, t7)]), .n (.sto 1 t6 t8)])
  .ret))
theorem hc_arrears_policy_between_int_ : compF Tryz.prog 9 Tryz.f99 = some (ic_arrears_policy_between_int_, [.c 6 true 1]) := by kernel_rfl

theorem fn_policy_rules_c1 : Tryz.prog.funcs[policy_rules_c1]? = some Tryz.f100 := Tryz.func100
theorem nt_policy_rules_c1 : Tryz.f100.ntmps = 5 := Tryz.ntmps100
def ic_policy_rules_c1 : IC := (.seq (.ops [.o 1 (.box t0), .o 2 (.mv (ci 0))])
  (.seq (.ops [.o 3 (.fa 0 0 t1), .o 4 (.ld false 1 t3), .o 2 (.mv t4)])
  .ret))
theorem hc_policy_rules_c1 : compF Tryz.prog 5 Tryz.f100 = some (ic_policy_rules_c1, [.t 2]) := by kernel_rfl

theorem fn_arrears_policy_from_int_ : Tryz.prog.funcs[arrears_policy_from_int_]? = some Tryz.f101 := Tryz.func101
theorem nt_arrears_policy_from_int_ : Tryz.f101.ntmps = 4 := Tryz.ntmps101
def ic_arrears_policy_from_int_ : IC := (.seq (.ops [.o 1 (.box t0), .o 2 (.mv (.c (.nilFunc)))])
  (.seq (.ops [.o 3 (.mkf (.func 152) [] [t1]), .o 2 (.mv t3)])
  .ret))
theorem hc_arrears_policy_from_int_ : compF Tryz.prog 4 Tryz.f101 = some (ic_arrears_policy_from_int_, [.t 2]) := by kernel_rfl

theorem fn_policy_rules_c2 : Tryz.prog.funcs[policy_rules_c2]? = some Tryz.f102 := Tryz.func102
theorem nt_policy_rules_c2 : Tryz.f102.ntmps = 5 := Tryz.ntmps102
def ic_policy_rules_c2 : IC := (.seq (.ops [.o 1 (.box t0), .o 2 (.mv (ci 0))])
  (.seq (.ops [.o 3 (.fa 1 1 t1), .o 4 (.ld false 1 t3), .o 2 (.mv t4)])
  .ret))
theorem hc_policy_rules_c2 : compF Tryz.prog 5 Tryz.f102 = some (ic_policy_rules_c2, [.t 2]) := by kernel_rfl

theorem fn_policy_rules_c3 : Tryz.prog.funcs[policy_rules_c3]? = some Tryz.f103 := Tryz.func103
theorem nt_policy_rules_c3 : Tryz.f103.ntmps = 5 := Tryz.ntmps103
def ic_policy_rules_c3 : IC := (.seq (.ops [.o 1 (.box t0), .o 2 (.mv (ci 0))])
  (.seq (.ops [.o 3 (.fa 2 2 t1), .o 4 (.ld false 1 t3), .o 2 (.mv t4)])
  .ret))
theorem hc_policy_rules_c3 : compF Tryz.prog 5 Tryz.f103 = some (ic_policy_rules_c3, [.t 2]) := by kernel_rfl

theorem fn_policy_rules_c4 : Tryz.prog.funcs[policy_rules_c4]? = some Tryz.f104 := Tryz.func104
theorem nt_policy_rules_c4 : Tryz.f104.ntmps = 6 := Tryz.ntmps104
def ic_policy_rules_c4 : IC := (.seq (.ops [.o 1 (.box t0), .o 2 (.mv (ci 0))])
  (.seq (.ops [.o 3 (.fa 1 1 t1), .o 4 (.ld false 1 t3), .o 5 (.bin .add t4 (ci 1)), .o 2 (.mv t5)])
  .ret))
theorem hc_policy_rules_c4 : compF Tryz.prog 6 Tryz.f104 = some (ic_policy_rules_c4, [.t 2]) := by kernel_rfl

theorem fn_policy_rules_c5 : Tryz.prog.funcs[policy_rules_c5]? = some Tryz.f105 := Tryz.func105
theorem nt_policy_rules_c5 : Tryz.f105.ntmps = 5 := Tryz.ntmps105
def ic_policy_rules_c5 : IC := (.seq (.ops [.o 1 (.box t0), .o 2 (.mv (ci 0))])
  (.seq (.ops [.o 3 (.fa 3 3 t1), .o 4 (.ld false 1 t3), .o 2 (.mv t4)])
  .ret))
theorem hc_policy_rules_c5 : compF Tryz.prog 5 Tryz.f105 = some (ic_policy_rules_c5, [.t 2]) := by kernel_rfl

theorem fn_arrears_policy_between_int64_ : Tryz.prog.funcs[arrears_policy_between_int64_]? = some Tryz.f106 := Tryz.func106
theorem nt_arrears_policy_between_int64_ : Tryz.f106.ntmps = 9 := Tryz.ntmps106
def ic_arrears_policy_between_int64_ : IC := (.seq (.ops [.o 3 (.box t0), .o 4 (.box t1), .o 5 (.box t2), .o 6 (.alloc (.st (.cons (.val (.nilFunc)) .nil)))])
  (.seq (.ops [.o 7 (.mkf (.func 153) [] [t3, t4, t5]), .o 8 (.build (.st (.cons (.val (.nilFunc)) .nil)) [(0, 0, 1, t7)]), .n (.sto 1 t6 t8)])
  .ret))
theorem hc_arrears_policy_between_int64_ : compF Tryz.prog 9 Tryz.f106 = some (ic_arrears_policy_between_int64_, [.c 6 true 1]) := by kernel_rfl

theorem fn_policy_rules_c6 : Tryz.prog.funcs[policy_rules_c6]? = some Tryz.f107 := Tryz.func107
theorem nt_policy_rules_c6 : Tryz.f107.ntmps = 5 := Tryz.ntmps107
def ic_policy_rules_c6 : IC := (.seq (.ops [.o 1 (.box t0), .o 2 (.mv (ci 0))])
  (.seq (.ops [.o 3 (.fa 4 4 t1), .o 4 (.ld false 1 t3), .o 2 (.mv t4)])
  .ret))
theorem hc_policy_rules_c6 : compF Tryz.prog 5 Tryz.f107 = some (ic_policy_rules_c6, [.t 2]) := by kernel_rfl

theorem fn_arrears_policy_from_int64_ : Tryz.prog.funcs[arrears_policy_from_int64_]? = some Tryz.f108 := Tryz.func108
theorem nt_arrears_policy_from_int64_ : Tryz.f108.ntmps = 4 := Tryz.ntmps108
def ic_arrears_policy_from_int64_ : IC := (.seq (.ops [.o 1 (.box t0), .o 2 (.mv (.c (.nilFunc)))])
  (.seq (.ops [.o 3 (.mkf (.func 154) [] [t1]), .o 2 (.mv t3)])
  .ret))
theorem hc_arrears_policy_from_int64_ : compF Tryz.prog 4 Tryz.f108 = some (ic_arrears_policy_from_int64_, [.t 2]) := by kernel_rfl

theorem fn_policy_rules_c7 : Tryz.prog.funcs[policy_rules_c7]? = some Tryz.f109 := Tryz.func109
theorem nt_policy_rules_c7 : Tryz.f109.ntmps = 5 := Tryz.ntmps109
def ic_policy_rules_c7 : IC := (.seq (.ops [.o 1 (.box t0), .o 2 (.mv (ci 0))])
  (.seq (.ops [.o 3 (.fa 5 5 t1), .o 4 (.ld false 1 t3), .o 2 (.mv t4)])
  .ret))
theorem hc_policy_rules_c7 : compF Tryz.prog 5 Tryz.f109 = some (ic_policy_rules_c7, [.t 2]) := by kernel_rfl

theorem fn_policy_rules_c8 : Tryz.prog.funcs[policy_rules_c8]? = some Tryz.f110 := Tryz.func110
theorem nt_policy_rules_c8 : Tryz.f110.ntmps = 5 := Tryz.ntmps110
def ic_policy_rules_c8 : IC := (.seq (.ops [.o 1 (.box t0), .o 2 (.mv (ci 0))])
  (.seq (.ops [.o 3 (.fa 6 6 t1), .o 4 (.ld false 1 t3), .o 2 (.mv t4)])
  .ret))
theorem hc_policy_rules_c8 : compF Tryz.prog 5 Tryz.f110 = some (ic_policy_rules_c8, [.t 2]) := by kernel_rfl

theorem fn_policy_rules_c9 : Tryz.prog.funcs[policy_rules_c9]? = some Tryz.f111 := Tryz.func111
theorem nt_policy_rules_c9 : Tryz.f111.ntmps = 5 := Tryz.ntmps111
def ic_policy_rules_c9 : IC := (.seq (.ops [.o 1 (.box t0), .o 2 (.mv (ci 0))])
  (.seq (.ops [.o 3 (.fa 5 5 t1), .o 4 (.ld false 1 t3), .o 2 (.mv t4)])
  .ret))
theorem hc_policy_rules_c9 : compF Tryz.prog 5 Tryz.f111 = some (ic_policy_rules_c9, [.t 2]) := by kernel_rfl

theorem fn_policy_rules_c10 : Tryz.prog.funcs[policy_rules_c10]? = some Tryz.f112 := Tryz.func112
theorem nt_policy_rules_c10 : Tryz.f112.ntmps = 5 := Tryz.ntmps112
def ic_policy_rules_c10 : IC := (.seq (.ops [.o 1 (.box t0), .o 2 (.mv (ci 0))])
  (.seq (.ops [.o 3 (.fa 7 7 t1), .o 4 (.ld false 1 t3), .o 2 (.mv t4)])
  .ret))
theorem hc_policy_rules_c10 : compF Tryz.prog 5 Tryz.f112 = some (ic_policy_rules_c10, [.t 2]) := by kernel_rfl

theorem fn_policy_rules_c11 : Tryz.prog.funcs[policy_rules_c11]? = some Tryz.f113 := Tryz.func113
theorem nt_policy_rules_c11 : Tryz.f113.ntmps = 5 := Tryz.ntmps113
def ic_policy_rules_c11 : IC := (.seq (.ops [.o 1 (.box t0), .o 2 (.mv (ci 0))])
  (.seq (.ops [.o 3 (.fa 8 8 t1), .o 4 (.ld false 1 t3), .o 2 (.mv t4)])
  .ret))
theorem hc_policy_rules_c11 : compF Tryz.prog 5 Tryz.f113 = some (ic_policy_rules_c11, [.t 2]) := by kernel_rfl

theorem fn_policy_rules_c12 : Tryz.prog.funcs[policy_rules_c12]? = some Tryz.f114 := Tryz.func114
theorem nt_policy_rules_c12 : Tryz.f114.ntmps = 5 := Tryz.ntmps114
def ic_policy_rules_c12 : IC := (.seq (.ops [.o 1 (.box t0), .o 2 (.mv (ci 0))])
  (.seq (.ops [.o 3 (.fa 9 9 t1), .o 4 (.ld false 1 t3), .o 2 (.mv t4)])
  .ret))
theorem hc_policy_rules_c12 : compF Tryz.prog 5 Tryz.f114 = some (ic_policy_rules_c12, [.t 2]) := by kernel_rfl

theorem fn_policy_rules_c13 : Tryz.prog.funcs[policy_rules_c13]? = some Tryz.f115 := Tryz.func115
theorem nt_policy_rules_c13 : Tryz.f115.ntmps = 5 := Tryz.ntmps115
def ic_policy_rules_c13 : IC := (.seq (.ops [.o 1 (.box t0), .o 2 (.mv (ci 0))])
  (.seq (.ops [.o 3 (.fa 10 10 t1), .o 4 (.ld false 1 t3), .o 2 (.mv t4)])
  .ret))
theorem hc_policy_rules_c13 : compF Tryz.prog 5 Tryz.f115 = some (ic_policy_rules_c13, [.t 2]) := by kernel_rfl

theorem fn_policy_rules_c14 : Tryz.prog.funcs[policy_rules_c14]? = some Tryz.f116 := Tryz.func116
theorem nt_policy_rules_c14 : Tryz.f116.ntmps = 5 := Tryz.ntmps116
def ic_policy_rules_c14 : IC := (.seq (.ops [.o 1 (.box t0), .o 2 (.mv (ci 0))])
  (.seq (.ops [.o 3 (.fa 11 11 t1), .o 4 (.ld false 1 t3), .o 2 (.mv t4)])
  .ret))
theorem hc_policy_rules_c14 : compF Tryz.prog 5 Tryz.f116 = some (ic_policy_rules_c14, [.t 2]) := by kernel_rfl

theorem fn_policy_rules_c15 : Tryz.prog.funcs[policy_rules_c15]? = some Tryz.f117 := Tryz.func117
theorem nt_policy_rules_c15 : Tryz.f117.ntmps = 5 := Tryz.ntmps117
def ic_policy_rules_c15 : IC := (.seq (.ops [.o 1 (.box t0), .o 2 (.mv (ci 0))])
  (.seq (.ops [.o 3 (.fa 12 12 t1), .o 4 (.ld false 1 t3), .o 2 (.mv t4)])
  .ret))
theorem hc_policy_rules_c15 : compF Tryz.prog 5 Tryz.f117 = some (ic_policy_rules_c15, [.t 2]) := by kernel_rfl

theorem fn_policy_rules_c16 : Tryz.prog.funcs[policy_rules_c16]? = some Tryz.f118 := Tryz.func118
theorem nt_policy_rules_c16 : Tryz.f118.ntmps = 5 := Tryz.ntmps118
def ic_policy_rules_c16 : IC := (.seq (.ops [.o 1 (.box t0), .o 2 (.mv (ci 0))])
  (.seq (.ops [.o 3 (.fa 13 13 t1), .o 4 (.ld false 1 t3), .o 2 (.mv t4)])
  .ret))
theorem hc_policy_rules_c16 : compF Tryz.prog 5 Tryz.f118 = some (ic_policy_rules_c16, [.t 2]) := by kernel_rfl

theorem fn_policy_rules_c17 : Tryz.prog.funcs[policy_rules_c17]? = some Tryz.f119 := Tryz.func119
theorem nt_policy_rules_c17 : Tryz.f119.ntmps = 5 := Tryz.ntmps119
def ic_policy_rules_c17 : IC := (.seq (.ops [.o 1 (.box t0), .o 2 (.mv (ci 0))])
  (.seq (.ops [.o 3 (.fa 14 14 t1), .o 4 (.ld false 1 t3), .o 2 (.mv t4)])
  .ret))
theorem hc_policy_rules_c17 : compF Tryz.prog 5 Tryz.f119 = some (ic_policy_rules_c17, [.t 2]) := by kernel_rfl

theorem fn_policy_rules_c18 : Tryz.prog.funcs[policy_rules_c18]? = some Tryz.f120 := Tryz.func120
theorem nt_policy_rules_c18 : Tryz.f120.ntmps = 5 := Tryz.ntmps120
def ic_policy_rules_c18 : IC := (.seq (.ops [.o 1 (.box t0), .o 2 (.mv (ci 0))])
  (.seq (.ops [.o 3 (.fa 15 15 t1), .o 4 (.ld false 1 t3), .o 2 (.mv t4)])
  .ret))
theorem hc_policy_rules_c18 : compF Tryz.prog 5 Tryz.f120 = some (ic_policy_rules_c18, [.t 2]) := by kernel_rfl

theorem fn_policy_rules_c19 : Tryz.prog.funcs[policy_rules_c19]? = some Tryz.f121 := Tryz.func121
theorem nt_policy_rules_c19 : Tryz.f121.ntmps = 5 := Tryz.ntmps121
def ic_policy_rules_c19 : IC := (.seq (.ops [.o 1 (.box t0), .o 2 (.mv (ci 0))])
  (.seq (.ops [.o 3 (.fa 14 14 t1), .o 4 (.ld false 1 t3), .o 2 (.mv t4)])
  .ret))
theorem hc_policy_rules_c19 : compF Tryz.prog 5 Tryz.f121 = some (ic_policy_rules_c19, [.t 2]) := by kernel_rfl

theorem fn_policy_rules_c20 : Tryz.prog.funcs[policy_rules_c20]? = some Tryz.f122 := Tryz.func122
theorem nt_policy_rules_c20 : Tryz.f122.ntmps = 5 := Tryz.ntmps122
def ic_policy_rules_c20 : IC := (.seq (.ops [.o 1 (.box t0), .o 2 (.mv (ci 0))])
  (.seq (.ops [.o 3 (.fa 16 16 t1), .o 4 (.ld false 1 t3), .o 2 (.mv t4)])
  .ret))
theorem hc_policy_rules_c20 : compF Tryz.prog 5 Tryz.f122 = some (ic_policy_rules_c20, [.t 2]) := by kernel_rfl

theorem fn_policy_days : Tryz.prog.funcs[policy_days]? = some Tryz.f123 := Tryz.func123
theorem nt_policy_days : Tryz.f123.ntmps = 26 := Tryz.ntmps123
def ic_policy_days : IC := (.seq (.ops [.o 1 (.box t0), .o 2 (.mv (.c (.bool false)))])
  (.seq (.seq (.ops [.o 6 (.fa 17 17 t1), .o 7 (.ld false 1 t6), .o 8 (.len t7), .o 9 (.bin .gtr t8 (ci 64))])
  (.cond t9
  (.seq (.ops [.o 2 (.mv (.c (.bool false)))])
  .ret)
  .skip))
  (.seq (.ops [.o 3 (.mv (ci 0))])
  (.seq (.seq (.ops [.o 10 (.fa 17 17 t1), .o 11 (.ld false 1 t10), .o 12 (.len t11), .o 13 (.mv (ci 0))])
  (.block 0 (.loop (.seq (.ops [.o 14 (.bin .lss t13 t12)])
  (.seq (.cond t14
  .skip
  (.exit 0))
  (.seq (.block 1 (.seq (.ops [.o 15 (.ixs 1 t11 t13), .o 16 (.ld false 1 t15), .o 5 (.mv t16)])
  (.seq (.seq (.ops [.o 17 (.mv t5), .o 18 (.mv t3), .o 19 (.bin .leq t17 t18), .o 20 (.mv t19), .og 21 20 false (.mv t5), .og 22 20 false (.bin .gtr t21 (ci 3652059)), .o 23 (.pick t20 (.c (.bool true)) t22)])
  (.cond t23
  (.seq (.ops [.o 2 (.mv (.c (.bool false)))])
  .ret)
  .skip))
  (.ops [.o 24 (.mv t5), .o 3 (.mv t24)]))))
  (.ops [.o 25 (.bin .add t13 (ci 1)), .o 13 (.mv t25)])))))))
  (.seq (.ops [.o 2 (.mv (.c (.bool true)))])
  .ret)))))
theorem hc_policy_days : compF Tryz.prog 26 Tryz.f123 = some (ic_policy_days, [.t 2]) := by kernel_rfl

theorem fn_arrears_money_Sum_int64_ : Tryz.prog.funcs[arrears_money_Sum_int64_]? = some Tryz.f124 := Tryz.func124
theorem nt_arrears_money_Sum_int64_ : Tryz.f124.ntmps = 46 := Tryz.ntmps124
def ic_arrears_money_Sum_int64_ : IC := (.seq (.ops [.o 2 (.mv (ci 0)), .o 3 (.mv (.c (.bool false)))])
  (.seq (.ops [.o 4 (.mv (.c (.int .u64 0))), .o 5 (.mv (.c (.int .u64 0)))])
  (.seq (.seq (.ops [.o 9 (.mv t0), .o 10 (.len t9), .o 11 (.mv (ci 0))])
  (.block 0 (.loop (.seq (.ops [.o 12 (.bin .lss t11 t10)])
  (.seq (.cond t12
  .skip
  (.exit 0))
  (.seq (.block 1 (.seq (.ops [.o 13 (.ixs 1 t9 t11), .o 14 (.ld false 1 t13), .o 7 (.mv t14)])
  (.seq (.ops [.o 8 (.mv (.c (.int .u64 0)))])
  (.seq (.ops [.o 16 (.mv t5), .o 17 (.mv t7), .o 18 (.conv .u64 t17), .o 19 (.xcall 155 [t16, t18, (.c (.int .u64 0))]), .o 15 (.mv t19), .o 20 (.ext 0 t15), .o 21 (.ext 1 t15), .o 5 (.mv t20), .o 8 (.mv t21)])
  (.seq (.ops [.o 22 (.mv t4), .o 23 (.mv t8), .o 24 (.bin .add t22 t23), .o 4 (.mv t24)])
  (.seq (.ops [.o 25 (.mv t7), .o 26 (.bin .lss t25 (ci 0))])
  (.cond t26
  (.ops [.o 27 (.mv t4), .o 28 (.bin .sub t27 (.c (.int .u64 1))), .o 4 (.mv t28)])
  .skip)))))))
  (.ops [.o 29 (.bin .add t11 (ci 1)), .o 11 (.mv t29)])))))))
  (.seq (.seq (.ops [.o 30 (.mv t4), .o 31 (.bin .eql t30 (.c (.int .u64 0))), .o 32 (.mv t31), .og 33 32 true (.mv t5), .og 34 32 true (.bin .leq t33 (.c (.int .u64 9223372036854775807))), .o 35 (.pick t32 t34 (.c (.bool false))), .o 36 (.mv t35), .og 37 36 false (.mv t4), .og 38 36 false (.bin .eql t37 (.c (.int .u64 18446744073709551615))), .og 39 36 false (.mv t38), .og 40 39 true (.mv t5), .og 41 39 true (.bin .geq t40 (.c (.int .u64 9223372036854775808))), .og 42 36 false (.pick t39 t41 (.c (.bool false))), .o 43 (.pick t36 (.c (.bool true)) t42)])
  (.cond t43
  (.seq (.ops [.o 44 (.mv t5), .o 45 (.conv .i64 t44), .o 2 (.mv t45), .o 3 (.mv (.c (.bool true)))])
  .ret)
  .skip))
  (.seq (.ops [.o 2 (.mv (ci 0)), .o 3 (.mv (.c (.bool false)))])
  .ret)))))
theorem hc_arrears_money_Sum_int64_ : compF Tryz.prog 46 Tryz.f124 = some (ic_arrears_money_Sum_int64_, [.t 2, .t 3]) := by kernel_rfl

theorem fn_r10_late : Tryz.prog.funcs[r10_late]? = some Tryz.f125 := Tryz.func125
theorem nt_r10_late : Tryz.f125.ntmps = 13 := Tryz.ntmps125
def ic_r10_late : IC := (.seq (.ops [.o 2 (.box t0), .o 4 (.mv (ci 0))])
  (.seq (.seq (.ops [.o 5 (.mv t1), .o 6 (.fa 0 0 t2), .o 7 (.ld false 1 t6), .o 8 (.bin .leq t5 t7)])
  (.cond t8
  (.seq (.ops [.o 4 (.mv (ci 0))])
  .ret)
  .skip))
  (.seq (.ops [.o 9 (.mv t1), .o 10 (.fa 0 0 t2), .o 11 (.ld false 1 t10), .o 12 (.bin .sub t9 t11), .o 4 (.mv t12)])
  .ret)))
theorem hc_r10_late : compF Tryz.prog 13 Tryz.f125 = some (ic_r10_late, [.t 4]) := by kernel_rfl

theorem fn_r10_before : Tryz.prog.funcs[r10_before]? = some Tryz.f126 := Tryz.func126
theorem nt_r10_before : Tryz.f126.ntmps = 26 := Tryz.ntmps126
def ic_r10_before : IC := (.seq (.ops [.o 4 (.mv (ci 0))])
  (.seq (.ops [.o 5 (.mv (ci 0))])
  (.seq (.seq (.ops [.o 6 (.mv (ci 0))])
  (.block 0 (.loop (.seq (.seq (.ops [.o 7 (.mv t6), .o 8 (.mv t1), .o 9 (.bin .lss t7 t8)])
  (.cond t9
  .skip
  (.exit 0)))
  (.seq (.block 1 (.dops [.o 12 (.mv t5), .o 13 (.mv t0), .o 14 (.mv t6), .o 15 (.ixs 4 t13 t14), .o 16 (.fa 1 1 t15), .o 17 (.ld false 1 t16), .o 18 (.bin .add t12 t17), .o 19 (.mv t0), .o 20 (.mv t6), .o 21 (.ixs 4 t19 t20), .o 22 (.fa 2 2 t21), .o 23 (.ld false 1 t22), .o 24 (.bin .add t18 t23), .o 5 (.mv t24)]))
  (.ops [.o 10 (.mv t6), .o 11 (.bin .add t10 (ci 1)), .o 6 (.mv t11)]))))))
  (.seq (.ops [.o 25 (.mv t5), .o 4 (.mv t25)])
  .ret))))
theorem hc_r10_before : compF Tryz.prog 26 Tryz.f126 = some (ic_r10_before, [.t 4]) := by kernel_rfl

theorem fn_r10_paid : Tryz.prog.funcs[r10_paid]? = some Tryz.f127 := Tryz.func127
theorem nt_r10_paid : Tryz.f127.ntmps = 8 := Tryz.ntmps127
def ic_r10_paid : IC := (.seq (.ops [.o 1 (.box t0), .o 2 (.mv (ci 0))])
  (.seq (.seq (.ops [.o 3 (.fa 0 0 t1), .o 4 (.ld false 1 t3), .o 5 (.bin .lss t4 (ci 0))])
  (.cond t5
  (.seq (.ops [.o 2 (.mv (ci 0))])
  .ret)
  .skip))
  (.seq (.ops [.o 6 (.fa 0 0 t1), .o 7 (.ld false 1 t6), .o 2 (.mv t7)])
  .ret)))
theorem hc_r10_paid : compF Tryz.prog 8 Tryz.f127 = some (ic_r10_paid, [.t 2]) := by kernel_rfl

theorem fn_r8_is : Tryz.prog.funcs[r8_is]? = some Tryz.f128 := Tryz.func128
theorem nt_r8_is : Tryz.f128.ntmps = 9 := Tryz.ntmps128
def ic_r8_is : IC := (.seq (.ops [.o 2 (.mv (.c (.bool false)))])
  (.seq (.ops [.o 3 (.mv t0), .o 4 (.bin .geq t3 (ci 0)), .o 5 (.mv t4), .og 6 5 true (.mv t0), .og 7 5 true (.bin .lss t6 (ci 12)), .o 8 (.pick t5 t7 (.c (.bool false))), .o 2 (.mv t8)])
  .ret))
theorem hc_r8_is : compF Tryz.prog 9 Tryz.f128 = some (ic_r8_is, [.t 2]) := by kernel_rfl

theorem fn_r8_Debits : Tryz.prog.funcs[r8_Debits]? = some Tryz.f129 := Tryz.func129
theorem nt_r8_Debits : Tryz.f129.ntmps = 11 := Tryz.ntmps129
def ic_r8_Debits : IC := (.seq (.ops [.o 2 (.mv (.c (.bool false)))])
  (.seq (.seq (.ops [.o 3 (.mv t0)])
  (.block 0 (.seq (.seq (.ops [.o 5 (.bin .eql t3 (ci 0)), .o 4 (.mv t5)])
  (.cond t4
  .skip
  (.seq (.ops [.o 6 (.bin .eql t3 (ci 1)), .o 4 (.mv t6)])
  (.cond t4
  .skip
  (.seq (.ops [.o 7 (.bin .eql t3 (ci 2)), .o 4 (.mv t7)])
  (.cond t4
  .skip
  (.seq (.ops [.o 8 (.bin .eql t3 (ci 3)), .o 4 (.mv t8)])
  (.cond t4
  .skip
  (.seq (.ops [.o 9 (.bin .eql t3 (ci 9)), .o 4 (.mv t9)])
  (.cond t4
  .skip
  (.ops [.o 10 (.bin .eql t3 (ci 11)), .o 4 (.mv t10)])))))))))))
  (.cond t4
  (.seq (.ops [.o 2 (.mv (.c (.bool true)))])
  .ret)
  .skip))))
  (.seq (.ops [.o 2 (.mv (.c (.bool false)))])
  .ret)))
theorem hc_r8_Debits : compF Tryz.prog 11 Tryz.f129 = some (ic_r8_Debits, [.t 2]) := by kernel_rfl

theorem fn_r10_Sound : Tryz.prog.funcs[r10_Sound]? = some Tryz.f130 := Tryz.func130
theorem nt_r10_Sound : Tryz.f130.ntmps = 65 := Tryz.ntmps130
def ic_r10_Sound : IC := (.seq (.ops [.o 2 (.mv (.c (.bool false)))])
  (.seq (.seq (.ops [.o 3 (.mv (ci 0))])
  (.block 0 (.loop (.seq (.seq (.ops [.o 6 (.mv t3), .o 7 (.mv t0), .o 8 (.len t7), .o 9 (.bin .lss t6 t8)])
  (.cond t9
  .skip
  (.exit 0)))
  (.seq (.block 1 (.seq (.seq (.ops [.o 12 (.mv t0), .o 13 (.mv t3), .o 14 (.ixs 4 t12 t13), .o 15 (.fa 0 0 t14), .o 16 (.ld false 1 t15), .o 17 (.bin .lss t16 (ci 1)), .o 18 (.mv t17), .og 19 18 false (.mv t0), .og 20 18 false (.mv t3), .og 21 18 false (.ixs 4 t19 t20), .og 22 18 false (.fa 0 0 t21), .og 23 18 false (.ld false 1 t22), .og 24 18 false (.bin .gtr t23 (ci 3652059)), .o 25 (.pick t18 (.c (.bool true)) t24), .o 26 (.mv t25), .og 27 26 false (.mv t0), .og 28 26 false (.mv t3), .og 29 26 false (.ixs 4 t27 t28), .og 30 26 false (.fa 1 1 t29), .og 31 26 false (.ld false 1 t30), .og 32 26 false (.bin .lss t31 (ci 0)), .o 33 (.pick t26 (.c (.bool true)) t32), .o 34 (.mv t33), .og 35 34 false (.mv t0), .og 36 34 false (.mv t3), .og 37 34 false (.ixs 4 t35 t36), .og 38 34 false (.fa 2 2 t37), .og 39 34 false (.ld false 1 t38), .og 40 34 false (.bin .lss t39 (ci 0)), .o 41 (.pick t34 (.c (.bool true)) t40)])
  (.cond t41
  (.seq (.ops [.o 2 (.mv (.c (.bool false)))])
  .ret)
  .skip))
  (.seq (.dops [.o 42 (.mv t3), .o 43 (.bin .gtr t42 (ci 0)), .o 44 (.mv t43), .og 45 44 true (.mv t0), .og 46 44 true (.mv t3), .og 47 44 true (.ixs 4 t45 t46), .og 48 44 true (.fa 0 0 t47), .og 49 44 true (.ld false 1 t48), .og 50 44 true (.mv t0), .og 51 44 true (.mv t3), .og 52 44 true (.bin .sub t51 (ci 1)), .og 53 44 true (.ixs 4 t50 t52), .og 54 44 true (.fa 0 0 t53), .og 55 44 true (.ld false 1 t54), .og 56 44 true (.bin .leq t49 t55), .o 57 (.pick t44 t56 (.c (.bool false)))])
  (.cond t57
  (.seq (.ops [.o 2 (.mv (.c (.bool false)))])
  .ret)
  .skip))))
  (.ops [.o 10 (.mv t3), .o 11 (.bin .add t10 (ci 1)), .o 3 (.mv t11)]))))))
  (.seq (.ops [.o 59 (.mv t0), .o 60 (.call 156 [t59]), .o 61 (.call 26 [t60]), .o 58 (.mv t61), .o 62 (.ext 0 t58), .o 63 (.ext 1 t58), .o 4 (.mv t62), .o 5 (.mv t63)])
  (.seq (.ops [.o 64 (.mv t5), .o 2 (.mv t64)])
  .ret))))
theorem hc_r10_Sound : compF Tryz.prog 65 Tryz.f130 = some (ic_r10_Sound, [.t 2]) := by kernel_rfl

theorem fn_r14_copied : Tryz.prog.funcs[r14_copied]? = some Tryz.f132 := Tryz.func132
theorem nt_r14_copied : Tryz.f132.ntmps = 23 := Tryz.ntmps132
def ic_r14_copied : IC := (.seq (.ops [.o 1 (.box t0), .o 2 (.alloc (.st (zc (.cons (.st (zc (zc (zc (zc (zc (zc .nil))))))) (.cons zs (.cons (.st (.cons (.arr 12 1 fun _ => zi) .nil)) (.cons (.st (zc (zf (zc (zc (zc (zc (zc (zc (zc (zc (zc (zc (zc (zc (zc .nil)))))))))))))))) (zc (zc (zc (.cons (.st (zc (zc (zc (zc (zc .nil)))))) (zf (zc (zc .nil))))))))))))))])
  (.seq (.ops [.o 3 (.mv (.c (.slice none 0 0)))])
  (.seq (.seq (.ops [.o 4 (.mv (ci 0))])
  (.block 0 (.loop (.seq (.seq (.ops [.o 5 (.mv t4), .o 6 (.fa 2 7 t1), .o 7 (.ld false 1 t6), .o 8 (.len t7), .o 9 (.bin .lss t5 t8)])
  (.cond t9
  .skip
  (.exit 0)))
  (.seq (.block 1 (.ops [.o 12 (.mv t3), .o 13 (.fa 2 7 t1), .o 14 (.ld false 1 t13), .o 15 (.mv t4), .o 16 (.ixs 4 t14 t15), .o 17 (.ld true 4 t16), .o 18 (.bsl 4 72 (.st (zc (zc (zc (zf .nil))))) [(0, 0, 4, t17)]), .o 19 (.app 4 32 72 t12 t18), .o 3 (.mv t19)]))
  (.ops [.o 10 (.mv t4), .o 11 (.bin .add t10 (ci 1)), .o 4 (.mv t11)]))))))
  (.seq (.ops [.o 20 (.mv t3), .o 21 (.fa 2 7 t1), .n (.sto 1 t21 t20)])
  (.seq (.ops [.o 22 (.ld true 46 t1), .n (.sto 46 t2 t22)])
  .ret)))))
theorem hc_r14_copied : compF Tryz.prog 23 Tryz.f132 = some (ic_r14_copied, [.c 2 true 46]) := by kernel_rfl

theorem fn_r3_Valid : Tryz.prog.funcs[r3_Valid]? = some Tryz.f133 := Tryz.func133
theorem nt_r3_Valid : Tryz.f133.ntmps = 53 := Tryz.ntmps133
def ic_r3_Valid : IC := (.seq (.ops [.o 1 (.box t0), .o 2 (.mv (.c (.bool false)))])
  (.seq (.seq (.ops [.o 3 (.fa 0 0 t1), .o 4 (.ld false 1 t3), .o 5 (.bin .lss t4 (ci 0)), .o 6 (.mv t5), .og 7 6 false (.fa 0 0 t1), .og 8 6 false (.ld false 1 t7), .og 9 6 false (.bin .gtr t8 (ci 2)), .o 10 (.pick t6 (.c (.bool true)) t9), .o 11 (.mv t10), .og 12 11 false (.fa 1 1 t1), .og 13 11 false (.ld false 1 t12), .og 14 11 false (.bin .lss t13 (ci 1)), .o 15 (.pick t11 (.c (.bool true)) t14), .o 16 (.mv t15), .og 17 16 false (.fa 1 1 t1), .og 18 16 false (.ld false 1 t17), .og 19 16 false (.bin .gtr t18 (ci 10000000000000)), .o 20 (.pick t16 (.c (.bool true)) t19), .o 21 (.mv t20), .og 22 21 false (.fa 2 2 t1), .og 23 21 false (.ld false 1 t22), .og 24 21 false (.call 158 [t23]), .og 25 21 false (.un .not t24), .o 26 (.pick t21 (.c (.bool true)) t25)])
  (.cond t26
  (.seq (.ops [.o 2 (.mv (.c (.bool false)))])
  .ret)
  .skip))
  (.seq (.seq (.ops [.o 27 (.fa 3 3 t1), .o 28 (.ld false 1 t27), .o 29 (.bin .lss t28 (ci 1)), .o 30 (.mv t29), .og 31 30 false (.fa 3 3 t1), .og 32 30 false (.ld false 1 t31), .og 33 30 false (.bin .gtr t32 (ci 120)), .o 34 (.pick t30 (.c (.bool true)) t33), .o 35 (.mv t34), .og 36 35 false (.fa 4 4 t1), .og 37 35 false (.ld false 1 t36), .og 38 35 false (.bin .lss t37 (ci 1)), .o 39 (.pick t35 (.c (.bool true)) t38), .o 40 (.mv t39), .og 41 40 false (.fa 4 4 t1), .og 42 40 false (.ld false 1 t41), .og 43 40 false (.bin .gtr t42 (ci 3652059)), .o 44 (.pick t40 (.c (.bool true)) t43)])
  (.cond t44
  (.seq (.ops [.o 2 (.mv (.c (.bool false)))])
  .ret)
  .skip))
  (.seq (.ops [.o 45 (.fa 5 5 t1), .o 46 (.ld false 1 t45), .o 47 (.bin .geq t46 (ci 0)), .o 48 (.mv t47), .og 49 48 true (.fa 5 5 t1), .og 50 48 true (.ld false 1 t49), .og 51 48 true (.bin .leq t50 (ci 3)), .o 52 (.pick t48 t51 (.c (.bool false))), .o 2 (.mv t52)])
  .ret))))
theorem hc_r3_Valid : compF Tryz.prog 53 Tryz.f133 = some (ic_r3_Valid, [.t 2]) := by kernel_rfl

theorem fn_r3_Level : Tryz.prog.funcs[r3_Level]? = some Tryz.f134 := Tryz.func134
theorem nt_r3_Level : Tryz.f134.ntmps = 51 := Tryz.ntmps134
def ic_r3_Level : IC := (.seq (.ops [.o 6 (.mv (ci 0)), .o 7 (.mv (.c (.bool false)))])
  (.seq (.seq (.ops [.o 10 (.mv t0), .o 11 (.bin .lss t10 (ci 1)), .o 12 (.mv t11), .og 13 12 false (.mv t1), .og 14 12 false (.call 158 [t13]), .og 15 12 false (.un .not t14), .o 16 (.pick t12 (.c (.bool true)) t15), .o 17 (.mv t16), .og 18 17 false (.mv t2), .og 19 17 false (.bin .lss t18 (ci 1)), .o 20 (.pick t17 (.c (.bool true)) t19), .o 21 (.mv t20), .og 22 21 false (.mv t2), .og 23 21 false (.bin .gtr t22 (ci 120)), .o 24 (.pick t21 (.c (.bool true)) t23)])
  (.cond t24
  (.seq (.ops [.o 6 (.mv (ci 0)), .o 7 (.mv (.c (.bool false)))])
  .ret)
  .skip))
  (.seq (.ops [.o 8 (.mv (ci 9223372036854775807))])
  (.seq (.seq (.ops [.o 25 (.mv t8), .o 26 (.mv t0), .o 27 (.mv t1), .o 28 (.mv t2), .o 29 (.call 159 [t25, t26, t27, t28]), .o 30 (.un .not t29)])
  (.cond t30
  (.seq (.ops [.o 6 (.mv (ci 0)), .o 7 (.mv (.c (.bool false)))])
  .ret)
  .skip))
  (.seq (.seq (.ops [.o 9 (.mv (ci 4611686018427387904))])
  (.block 0 (.loop (.seq (.seq (.ops [.o 31 (.mv t9), .o 32 (.bin .gtr t31 (ci 0))])
  (.cond t32
  .skip
  (.exit 0)))
  (.seq (.block 1 (.seq (.ops [.o 35 (.mv t8), .o 36 (.mv t9), .o 37 (.bin .gtr t35 t36), .o 38 (.mv t37), .og 39 38 true (.mv t8), .og 40 38 true (.mv t9), .og 41 38 true (.bin .sub t39 t40), .og 42 38 true (.mv t0), .og 43 38 true (.mv t1), .og 44 38 true (.mv t2), .og 45 38 true (.call 159 [t41, t42, t43, t44]), .o 46 (.pick t38 t45 (.c (.bool false)))])
  (.cond t46
  (.ops [.o 47 (.mv t8), .o 48 (.mv t9), .o 49 (.bin .sub t47 t48), .o 8 (.mv t49)])
  .skip)))
  (.ops [.o 33 (.mv t9), .o 34 (.bin .quo t33 (ci 2)), .o 9 (.mv t34)]))))))
  (.seq (.ops [.o 50 (.mv t8), .o 6 (.mv t50), .o 7 (.mv (.c (.bool true)))])
  .ret))))))
theorem hc_r3_Level : compF Tryz.prog 51 Tryz.f134 = some (ic_r3_Level, [.t 6, .t 7]) := by kernel_rfl

theorem fn_r3_month : Tryz.prog.funcs[r3_month]? = some Tryz.f135 := Tryz.func135
theorem nt_r3_month : Tryz.f135.ntmps = 37 := Tryz.ntmps135
def ic_r3_month : IC := (.seq (.ops [.o 4 (.mv (ci 0))])
  (.seq (.ops [.o 8 (.mv t0), .o 9 (.bin .rem t8 (ci 120000)), .o 10 (.mv t1), .o 11 (.bin .mul t9 t10), .o 5 (.mv t11)])
  (.seq (.ops [.o 12 (.mv t0), .o 13 (.bin .quo t12 (ci 120000)), .o 14 (.mv t1), .o 15 (.bin .mul t13 t14), .o 16 (.mv t5), .o 17 (.bin .quo t16 (ci 120000)), .o 18 (.bin .add t15 t17), .o 6 (.mv t18)])
  (.seq (.ops [.o 19 (.mv t5), .o 20 (.bin .rem t19 (ci 120000)), .o 7 (.mv t20)])
  (.seq (.seq (.ops [.o 21 (.mv t7), .o 22 (.bin .mul (ci 2) t21), .o 23 (.bin .gtr t22 (ci 120000)), .o 24 (.mv t23), .og 25 24 false (.mv t7), .og 26 24 false (.bin .mul (ci 2) t25), .og 27 24 false (.bin .eql t26 (ci 120000)), .og 28 24 false (.mv t27), .og 29 28 true (.mv t6), .og 30 28 true (.bin .rem t29 (ci 2)), .og 31 28 true (.bin .eql t30 (ci 1)), .og 32 24 false (.pick t28 t31 (.c (.bool false))), .o 33 (.pick t24 (.c (.bool true)) t32)])
  (.cond t33
  (.ops [.o 34 (.mv t6), .o 35 (.bin .add t34 (ci 1)), .o 6 (.mv t35)])
  .skip))
  (.seq (.ops [.o 36 (.mv t6), .o 4 (.mv t36)])
  .ret))))))
theorem hc_r3_month : compF Tryz.prog 37 Tryz.f135 = some (ic_r3_month, [.t 4]) := by kernel_rfl

theorem fn_r3_part : Tryz.prog.funcs[r3_part]? = some Tryz.f136 := Tryz.func136
theorem nt_r3_part : Tryz.f136.ntmps = 49 := Tryz.ntmps136
def ic_r3_part : IC := (.seq (.ops [.o 5 (.box t0), .o 10 (.mv (ci 0))])
  (.seq (.seq (.ops [.o 12 (.fa 0 0 t5), .o 13 (.ld false 1 t12), .o 14 (.bin .eql t13 (ci 0))])
  (.cond t14
  (.seq (.seq (.ops [.o 15 (.mv t1), .o 16 (.mv t4), .o 17 (.bin .sub t15 t16), .o 18 (.mv t3), .o 19 (.bin .lss t17 t18)])
  (.cond t19
  (.seq (.ops [.o 20 (.mv t1), .o 21 (.mv t4), .o 22 (.bin .sub t20 t21), .o 10 (.mv t22)])
  .ret)
  .skip))
  (.seq (.ops [.o 23 (.mv t3), .o 10 (.mv t23)])
  .ret))
  .skip))
  (.seq (.seq (.ops [.o 24 (.fa 0 0 t5), .o 25 (.ld false 1 t24), .o 26 (.bin .eql t25 (ci 1))])
  (.cond t26
  (.seq (.ops [.o 27 (.fa 1 1 t5), .o 28 (.ld false 1 t27), .o 29 (.fa 3 3 t5), .o 30 (.ld false 1 t29), .o 31 (.bin .quo t28 t30), .o 11 (.mv t31)])
  (.seq (.seq (.ops [.o 32 (.mv t2), .o 33 (.fa 1 1 t5), .o 34 (.ld false 1 t33), .o 35 (.mv t11), .o 36 (.fa 3 3 t5), .o 37 (.ld false 1 t36), .o 38 (.bin .mul t35 t37), .o 39 (.bin .sub t34 t38), .o 40 (.bin .leq t32 t39)])
  (.cond t40
  (.seq (.ops [.o 41 (.mv t11), .o 42 (.bin .add t41 (ci 1)), .o 10 (.mv t42)])
  .ret)
  .skip))
  (.seq (.ops [.o 43 (.mv t11), .o 10 (.mv t43)])
  .ret)))
  .skip))
  (.seq (.seq (.ops [.o 44 (.mv t2), .o 45 (.fa 3 3 t5), .o 46 (.ld false 1 t45), .o 47 (.bin .lss t44 t46)])
  (.cond t47
  (.seq (.ops [.o 10 (.mv (ci 0))])
  .ret)
  .skip))
  (.seq (.ops [.o 48 (.mv t3), .o 10 (.mv t48)])
  .ret)))))
theorem hc_r3_part : compF Tryz.prog 49 Tryz.f136 = some (ic_r3_part, [.t 10]) := by kernel_rfl

theorem fn_r3_Due : Tryz.prog.funcs[r3_Due]? = some Tryz.f137 := Tryz.func137
theorem nt_r3_Due : Tryz.f137.ntmps = 36 := Tryz.ntmps137
def ic_r3_Due : IC := (.seq (.ops [.o 3 (.box t0), .o 6 (.mv (ci 0)), .o 7 (.mv (.c (.bool false)))])
  (.seq (.ops [.o 13 (.fa 4 4 t3), .o 14 (.ld false 1 t13), .o 15 (.call 160 [t14]), .o 12 (.mv t15), .o 16 (.ext 0 t12), .o 17 (.ext 1 t12), .o 8 (.alloc (.st (zc (zc (zc .nil))))), .n (.sto 3 t8 t16), .o 9 (.mv t17)])
  (.seq (.ops [.o 19 (.fa 4 4 t3), .o 20 (.ld false 1 t19), .o 21 (.mv t2), .o 22 (.fa 2 2 t8), .o 23 (.ld false 1 t22), .o 24 (.call 161 [t20, t21, t23]), .o 18 (.mv t24), .o 25 (.ext 0 t18), .o 26 (.ext 1 t18), .o 10 (.mv t25), .o 11 (.mv t26)])
  (.seq (.seq (.ops [.o 27 (.mv t11), .o 28 (.un .not t27)])
  (.cond t28
  (.seq (.ops [.o 6 (.mv (ci 0)), .o 7 (.mv (.c (.bool false)))])
  .ret)
  .skip))
  (.seq (.ops [.o 29 (.mv t10), .o 30 (.mv t1), .o 31 (.fa 5 5 t3), .o 32 (.ld false 1 t31), .o 33 (.call 162 [t29, t30, t32]), .o 34 (.ext 0 t33), .o 35 (.ext 1 t33), .o 6 (.mv t34), .o 7 (.mv t35)])
  .ret)))))
theorem hc_r3_Due : compF Tryz.prog 36 Tryz.f137 = some (ic_r3_Due, [.t 6, .t 7]) := by kernel_rfl

theorem fn_r8_Post : Tryz.prog.funcs[r8_Post]? = some Tryz.f138 := Tryz.func138
theorem nt_r8_Post : Tryz.f138.ntmps = 64 := Tryz.ntmps138
def ic_r8_Post : IC := (.seq (.ops [.o 2 (.box t0), .o 4 (.alloc (.st (.cons (.arr 12 1 fun _ => zi) .nil))), .o 5 (.mv (ci 0))])
  (.seq (.seq (.ops [.o 6 (.mv (ci 0))])
  (.block 0 (.loop (.seq (.seq (.ops [.o 13 (.mv t6), .o 14 (.mv t1), .o 15 (.len t14), .o 16 (.bin .lss t13 t15)])
  (.cond t16
  .skip
  (.exit 0)))
  (.seq (.block 1 (.seq (.ops [.o 19 (.mv t1), .o 20 (.mv t6), .o 21 (.ixs 3 t19 t20), .o 22 (.ld true 3 t21), .o 23 (.call 163 [t22]), .o 7 (.mv t23)])
  (.seq (.ops [.o 24 (.mv t7), .o 25 (.bin .neq t24 (ci 0))])
  (.cond t25
  (.seq (.ops [.o 26 (.ld true 12 t2), .o 27 (.mv t7), .n (.sto 12 t4 t26), .o 5 (.mv t27)])
  .ret)
  .skip))))
  (.ops [.o 17 (.mv t6), .o 18 (.bin .add t17 (ci 1)), .o 6 (.mv t18)]))))))
  (.seq (.ops [.o 8 (.alloc (.st (.cons (.arr 12 1 fun _ => zi) .nil)))])
  (.seq (.seq (.ops [.o 9 (.mv (ci 0))])
  (.block 2 (.loop (.seq (.seq (.ops [.o 28 (.mv t9), .o 29 (.bin .lss t28 (ci 12))])
  (.cond t29
  .skip
  (.exit 2)))
  (.seq (.block 3 (.seq (.ops [.o 33 (.ld true 12 t2), .o 34 (.mv t1), .o 35 (.mv t9), .o 36 (.call 164 [t33, t34, t35]), .o 37 (.call 26 [t36]), .o 32 (.mv t37), .o 38 (.ext 0 t32), .o 39 (.ext 1 t32), .o 10 (.mv t38), .o 11 (.mv t39)])
  (.seq (.seq (.ops [.o 40 (.mv t11), .o 41 (.un .not t40), .o 42 (.mv t41), .og 43 42 false (.mv t10), .og 44 42 false (.bin .eql t43 (ci (-9223372036854775808))), .o 45 (.pick t42 (.c (.bool true)) t44)])
  (.cond t45
  (.seq (.ops [.o 46 (.ld true 12 t2), .n (.sto 12 t4 t46), .o 5 (.mv (ci 3))])
  .ret)
  .skip))
  (.ops [.o 47 (.mv t9), .o 48 (.mv t10), .o 49 (.fa 0 0 t8), .o 50 (.ixa 12 1 t49 t47), .n (.sto 1 t50 t48)]))))
  (.ops [.o 30 (.mv t9), .o 31 (.bin .add t30 (ci 1)), .o 9 (.mv t31)]))))))
  (.seq (.seq (.ops [.o 12 (.mv (ci 0))])
  (.block 4 (.loop (.seq (.seq (.ops [.o 51 (.mv t12), .o 52 (.bin .lss t51 (ci 12))])
  (.cond t52
  .skip
  (.exit 4)))
  (.seq (.block 5 (.seq (.ops [.o 55 (.mv t12), .o 56 (.mv t12), .o 57 (.fa 0 0 t8), .o 58 (.ixa 12 1 t57 t56), .o 59 (.ld false 1 t58), .o 60 (.call 165 [t55, t59]), .o 61 (.un .not t60)])
  (.cond t61
  (.seq (.ops [.o 62 (.ld true 12 t2), .n (.sto 12 t4 t62), .o 5 (.mv (ci 81))])
  .ret)
  .skip)))
  (.ops [.o 53 (.mv t12), .o 54 (.bin .add t53 (ci 1)), .o 12 (.mv t54)]))))))
  (.seq (.ops [.o 63 (.ld true 12 t8), .n (.sto 12 t4 t63), .o 5 (.mv (ci 0))])
  .ret))))))
theorem hc_r8_Post : compF Tryz.prog 64 Tryz.f138 = some (ic_r8_Post, [.c 4 true 12, .t 5]) := by kernel_rfl

theorem fn_r14_accrued : Tryz.prog.funcs[r14_accrued]? = some Tryz.f139 := Tryz.func139
theorem nt_r14_accrued : Tryz.f139.ntmps = 56 := Tryz.ntmps139
def ic_r14_accrued : IC := (.seq (.ops [.o 2 (.box t0), .o 4 (.alloc (.st (.cons (.st (zc (zc (zc (zc (zc (zc (zc (zc (zc (zc (zc (zc (zc (zc (zc (zc (zc (.cons zs .nil))))))))))))))))))) (.cons (.st (zc (.cons (.st (zc (zc (zc (zc (zc (zc .nil))))))) (.cons zs (.cons (.st (.cons (.arr 12 1 fun _ => zi) .nil)) (.cons (.st (zc (zf (zc (zc (zc (zc (zc (zc (zc (zc (zc (zc (zc (zc (zc .nil)))))))))))))))) (zc (zc (zc (.cons (.st (zc (zc (zc (zc (zc .nil)))))) (zf (zc (zc .nil))))))))))))) (.cons (.st (zc (zc (zc (zc (zc .nil)))))) (.cons zs (zc .nil)))))))])
  (.seq (.seq (.ops [.o 9 (.fa 4 70 t2), .o 10 (.ld false 1 t9), .o 11 (.bin .neq t10 (ci 0))])
  (.cond t11
  (.seq (.ops [.o 12 (.ld true 71 t2), .n (.sto 71 t4 t12)])
  .ret)
  .skip))
  (.seq (.ops [.o 13 (.fa 1 18 t2), .o 14 (.fa 5 35 t13), .o 15 (.ld false 1 t14), .o 16 (.mv t1), .o 17 (.bin .add t15 t16), .o 18 (.fa 1 18 t2), .o 19 (.fa 5 35 t18), .n (.sto 1 t19 t17)])
  (.seq (.seq (.ops [.o 20 (.fa 1 18 t2), .o 21 (.ld true 46 t20), .o 22 (.call 140 [t21])])
  (.cond t22
  (.seq (.ops [.o 23 (.ld true 71 t2), .n (.sto 71 t4 t23)])
  .ret)
  .skip))
  (.seq (.dops [.o 25 (.fa 1 18 t2), .o 26 (.ld true 46 t25), .o 27 (.call 46 [t26, (ci 1)]), .o 28 (.fa 1 18 t2), .o 29 (.fa 1 1 t28), .o 30 (.fa 2 2 t29), .o 31 (.ld false 1 t30), .o 32 (.fa 1 18 t2), .o 33 (.fa 6 36 t32), .o 34 (.ld false 1 t33), .o 35 (.mv t1), .o 36 (.call 166 [t27, t31, t34, t35]), .o 24 (.mv t36), .o 37 (.ext 0 t24), .o 38 (.ext 1 t24), .o 39 (.ext 2 t24), .o 5 (.mv t37), .o 6 (.mv t38), .o 7 (.mv t39)])
  (.seq (.ops [.o 40 (.ld true 71 t2), .o 41 (.mv t7), .o 42 (.un .not t41), .o 43 (.call 85 [t40, t42, (ci 3)]), .n (.sto 71 t2 t43)])
  (.seq (.ops [.o 44 (.mv t6), .o 45 (.fa 1 18 t2), .o 46 (.fa 6 36 t45), .n (.sto 1 t46 t44)])
  (.seq (.ops [.o 8 (.mv (ci 7))])
  (.seq (.seq (.ops [.o 47 (.fa 1 18 t2), .o 48 (.fa 4 20 t47), .o 49 (.fa 1 1 t48), .o 50 (.ld false 1 t49)])
  (.cond t50
  (.ops [.o 8 (.mv (ci 5))])
  .skip))
  (.seq (.dops [.o 51 (.ld true 71 t2), .o 52 (.mv t8), .o 53 (.mv t5), .o 54 (.call 90 [(.c (.slice none 0 0)), (ci 2), t52, t53]), .o 55 (.call 89 [t51, t54]), .n (.sto 71 t4 t55)])
  .ret))))))))))
theorem hc_r14_accrued : compF Tryz.prog 56 Tryz.f139 = some (ic_r14_accrued, [.c 4 true 71]) := by kernel_rfl

theorem fn_r14_over : Tryz.prog.funcs[r14_over]? = some Tryz.f140 := Tryz.func140
theorem nt_r14_over : Tryz.f140.ntmps = 13 := Tryz.ntmps140
def ic_r14_over : IC := (.seq (.ops [.o 1 (.box t0), .o 2 (.mv (.c (.bool false)))])
  (.seq (.ops [.o 3 (.fa 4 20 t1), .o 4 (.fa 0 0 t3), .o 5 (.ld false 1 t4), .o 6 (.bin .eql t5 (ci 9)), .o 7 (.mv t6), .og 8 7 false (.fa 4 20 t1), .og 9 7 false (.fa 0 0 t8), .og 10 7 false (.ld false 1 t9), .og 11 7 false (.bin .eql t10 (ci 8)), .o 12 (.pick t7 (.c (.bool true)) t11), .o 2 (.mv t12)])
  .ret))
theorem hc_r14_over : compF Tryz.prog 13 Tryz.f140 = some (ic_r14_over, [.t 2]) := by kernel_rfl

theorem fn_r14_played : Tryz.prog.funcs[r14_played]? = some Tryz.f141 := Tryz.func141
theorem nt_r14_played : Tryz.f141.ntmps = 45 := Tryz.ntmps141
def ic_r14_played : IC := (.seq (.ops [.o 2 (.box t0), .o 3 (.box t1), .o 4 (.alloc (.st (.cons (.st (zc (zc (zc (zc (zc (zc (zc (zc (zc (zc (zc (zc (zc (zc (zc (zc (zc (.cons zs .nil))))))))))))))))))) (.cons (.st (zc (.cons (.st (zc (zc (zc (zc (zc (zc .nil))))))) (.cons zs (.cons (.st (.cons (.arr 12 1 fun _ => zi) .nil)) (.cons (.st (zc (zf (zc (zc (zc (zc (zc (zc (zc (zc (zc (zc (zc (zc (zc .nil)))))))))))))))) (zc (zc (zc (.cons (.st (zc (zc (zc (zc (zc .nil)))))) (zf (zc (zc .nil))))))))))))) (.cons (.st (zc (zc (zc (zc (zc .nil)))))) (.cons zs (zc .nil)))))))])
  (.seq (.seq (.ops [.o 9 (.fa 4 70 t2), .o 10 (.ld false 1 t9), .o 11 (.bin .neq t10 (ci 0))])
  (.cond t11
  (.seq (.ops [.o 12 (.ld true 71 t2), .n (.sto 71 t4 t12)])
  .ret)
  .skip))
  (.seq (.ops [.o 14 (.fa 0 0 t2), .o 15 (.ld true 18 t14), .o 16 (.fa 1 18 t2), .o 17 (.fa 4 20 t16), .o 18 (.ld true 15 t17), .o 19 (.ld true 4 t3), .o 20 (.call 167 [t15, t18, t19]), .o 13 (.mv t20), .o 21 (.ext 0 t13), .o 22 (.ext 1 t13), .o 23 (.ext 2 t13), .o 5 (.alloc (.st (zc (zf (zc (zc (zc (zc (zc (zc (zc (zc (zc (zc (zc (zc (zc .nil))))))))))))))))), .n (.sto 15 t5 t21), .o 6 (.mv t22), .o 7 (.mv t23)])
  (.seq (.seq (.ops [.o 24 (.mv t7), .o 25 (.bin .neq t24 (ci 0))])
  (.cond t25
  (.seq (.ops [.o 26 (.mv t7), .o 27 (.fa 4 70 t2), .n (.sto 1 t27 t26)])
  (.seq (.ops [.o 28 (.ld true 71 t2), .n (.sto 71 t4 t28)])
  .ret))
  .skip))
  (.seq (.ops [.o 29 (.ld true 15 t5), .o 30 (.fa 1 18 t2), .o 31 (.fa 4 20 t30), .n (.sto 15 t31 t29)])
  (.seq (.seq (.ops [.o 8 (.mv (ci 0))])
  (.block 0 (.loop (.seq (.seq (.ops [.o 32 (.mv t8), .o 33 (.mv t6), .o 34 (.len t33), .o 35 (.bin .lss t32 t34)])
  (.cond t35
  .skip
  (.exit 0)))
  (.seq (.block 1 (.dops [.o 38 (.ld true 71 t2), .o 39 (.mv t6), .o 40 (.mv t8), .o 41 (.ixs 1 t39 t40), .o 42 (.ld false 1 t41), .o 43 (.call 168 [t38, t42]), .n (.sto 71 t2 t43)]))
  (.ops [.o 36 (.mv t8), .o 37 (.bin .add t36 (ci 1)), .o 8 (.mv t37)]))))))
  (.seq (.ops [.o 44 (.ld true 71 t2), .n (.sto 71 t4 t44)])
  .ret)))))))
theorem hc_r14_played : compF Tryz.prog 45 Tryz.f141 = some (ic_r14_played, [.c 4 true 71]) := by kernel_rfl

theorem fn_r14_charged : Tryz.prog.funcs[r14_charged]? = some Tryz.f142 := Tryz.func142
theorem nt_r14_charged : Tryz.f142.ntmps = 90 := Tryz.ntmps142
def ic_r14_charged : IC := (.seq (.ops [.o 1 (.box t0), .o 2 (.alloc (.st (.cons (.st (zc (zc (zc (zc (zc (zc (zc (zc (zc (zc (zc (zc (zc (zc (zc (zc (zc (.cons zs .nil))))))))))))))))))) (.cons (.st (zc (.cons (.st (zc (zc (zc (zc (zc (zc .nil))))))) (.cons zs (.cons (.st (.cons (.arr 12 1 fun _ => zi) .nil)) (.cons (.st (zc (zf (zc (zc (zc (zc (zc (zc (zc (zc (zc (zc (zc (zc (zc .nil)))))))))))))))) (zc (zc (zc (.cons (.st (zc (zc (zc (zc (zc .nil)))))) (zf (zc (zc .nil))))))))))))) (.cons (.st (zc (zc (zc (zc (zc .nil)))))) (.cons zs (zc .nil)))))))])
  (.seq (.seq (.ops [.o 7 (.fa 4 70 t1), .o 8 (.ld false 1 t7), .o 9 (.bin .neq t8 (ci 0)), .o 10 (.mv t9), .og 11 10 false (.fa 1 18 t1), .og 12 10 false (.fa 4 20 t11), .og 13 10 false (.ld true 15 t12), .og 14 10 false (.call 169 [t13]), .og 15 10 false (.un .not t14), .o 16 (.pick t10 (.c (.bool true)) t15), .o 17 (.mv t16), .og 18 17 false (.fa 1 18 t1), .og 19 17 false (.fa 4 20 t18), .og 20 17 false (.fa 0 0 t19), .og 21 17 false (.ld false 1 t20), .og 22 17 false (.bin .eql t21 (ci 4)), .o 23 (.pick t17 (.c (.bool true)) t22)])
  (.cond t23
  (.seq (.ops [.o 24 (.ld true 71 t1), .n (.sto 71 t2 t24)])
  .ret)
  .skip))
  (.seq (.dops [.o 25 (.fa 1 18 t1), .o 26 (.fa 2 7 t25), .o 27 (.ld false 1 t26), .o 28 (.fa 1 18 t1), .o 29 (.ld true 46 t28), .o 30 (.call 48 [t29]), .o 31 (.fa 1 18 t1), .o 32 (.fa 5 35 t31), .o 33 (.ld false 1 t32), .o 34 (.fa 0 0 t1), .o 35 (.fa 1 1 t34), .o 36 (.ld false 1 t35), .o 37 (.call 170 [t27, t30, t33, t36]), .o 3 (.mv t37)])
  (.seq (.seq (.ops [.o 4 (.mv (ci 0))])
  (.block 0 (.loop (.seq (.seq (.ops [.o 38 (.mv t4), .o 39 (.mv t3), .o 40 (.len t39), .o 41 (.bin .lss t38 t40)])
  (.cond t41
  .skip
  (.exit 0)))
  (.seq (.block 1 (.seq (.dops [.o 44 (.fa 1 18 t1), .o 45 (.fa 2 7 t44), .o 46 (.ld false 1 t45), .o 47 (.mv t3), .o 48 (.mv t4), .o 49 (.ixs 1 t47 t48), .o 50 (.ld false 1 t49), .o 51 (.ixs 4 t46 t50), .o 52 (.ld true 4 t51), .o 5 (.alloc (.st (zc (zc (zc (zf .nil)))))), .n (.sto 4 t5 t52)])
  (.seq (.ops [.o 53 (.fa 0 0 t1), .o 54 (.ld true 18 t53), .o 55 (.fa 1 1 t5), .o 56 (.ld false 1 t55), .o 57 (.fa 2 2 t5), .o 58 (.ld false 1 t57), .o 59 (.bin .add t56 t58), .o 60 (.fa 1 18 t1), .o 61 (.fa 4 20 t60), .o 62 (.fa 13 13 t61), .o 63 (.ld false 1 t62), .o 64 (.fa 1 18 t1), .o 65 (.fa 4 20 t64), .o 66 (.fa 14 14 t65), .o 67 (.ld false 1 t66), .o 68 (.call 171 [t54, t59, t63, t67]), .o 6 (.mv t68)])
  (.seq (.ops [.o 69 (.mv t6), .o 70 (.bin .gtr t69 (ci 0))])
  (.cond t70
  (.seq (.ops [.o 71 (.ld true 71 t1), .o 72 (.mv t6), .o 73 (.build (.st (zc (zc (zc (zc .nil))))) [(0, 0, 1, (ci 6)), (3, 3, 1, t72)]), .o 74 (.call 141 [t71, t73]), .n (.sto 71 t1 t74)])
  (.seq (.dops [.o 75 (.ld true 71 t1), .o 76 (.mv t6), .o 77 (.call 90 [(.c (.slice none 0 0)), (ci 3), (ci 8), t76]), .o 78 (.call 89 [t75, t77]), .n (.sto 71 t1 t78)])
  (.ops [.o 79 (.ld true 71 t1), .o 80 (.mv t6), .o 81 (.call 148 [t79, (ci 5), t80]), .n (.sto 71 t1 t81)])))
  .skip)))))
  (.ops [.o 42 (.mv t4), .o 43 (.bin .add t42 (ci 1)), .o 4 (.mv t43)]))))))
  (.seq (.ops [.o 82 (.fa 1 18 t1), .o 83 (.fa 2 7 t82), .o 84 (.ld false 1 t83), .o 85 (.mv t3), .o 86 (.call 172 [t84, t85]), .o 87 (.fa 1 18 t1), .o 88 (.fa 2 7 t87), .n (.sto 1 t88 t86)])
  (.seq (.ops [.o 89 (.ld true 71 t1), .n (.sto 71 t2 t89)])
  .ret))))))
theorem hc_r14_charged : compF Tryz.prog 90 Tryz.f142 = some (ic_r14_charged, [.c 2 true 71]) := by kernel_rfl

end Go.Proofs.YtjkmmcbfcglkdaaGreatDoor
