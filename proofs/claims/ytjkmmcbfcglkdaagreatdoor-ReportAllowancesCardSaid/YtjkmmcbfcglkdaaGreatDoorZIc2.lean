/- The given functions as the walk reads them, continued. No condition. -/
import Derived.Test.YtjkmmcbfcglkdaaGreatDoorZIc
set_option linter.all false
namespace Go.Proofs.YtjkmmcbfcglkdaaGreatDoor
open Go Ar
set_option linter.unusedVariables false
set_option maxRecDepth 100000
theorem fn_policy_rules : Tryz.prog.funcs[policy_rules]? = some Tryz.f64 := Tryz.func64
theorem nt_policy_rules : Tryz.f64.ntmps = 34 := Tryz.ntmps64
def ic_policy_rules : IC := (.seq (io [em 0 (.c (.slice none 0 0))])
  (.seq (io [ec 1 101 [(ci 1)], ec 2 99 [(.f 100), t1, (ci 3652059)], ec 3 101 [(ci 0)], ec 4 99 [(.f 102), t3, (ci 30)], ec 5 99 [(.f 103), (.f 104), (ci 365)], ec 6 101 [(ci 1)], ec 7 99 [(.f 105), t6, (ci 365)], ec 8 108 [(ci 0)], ec 9 106 [(.f 107), t8, (ci 10000)], ec 10 108 [(ci 0)], ec 11 106 [(.f 109), t10, (ci 1000000000)], ec 12 106 [(.f 110), (.f 111), (ci 1000000000)], ec 13 108 [(ci 0)], ec 14 106 [(.f 112), t13, (ci 1000000000)], ec 15 108 [(ci 0)], ec 16 106 [(.f 113), t15, (ci 1000000000)], ec 17 101 [(ci 0)], ec 18 99 [(.f 114), t17, (ci 8)], ec 19 101 [(ci 1)], ec 20 99 [(.f 115), t19, (ci 60)], ec 21 101 [(ci 0)], ec 22 99 [(.f 116), t21, (ci 4)], ec 23 101 [(ci 0)], ec 24 99 [(.f 117), t23, (ci 5)], ec 25 101 [(ci 0)], ec 26 99 [(.f 118), t25, (ci 3)], ec 27 101 [(ci 1)], ec 28 99 [(.f 119), t27, (ci 64)], ec 29 99 [(.f 120), (.f 121), (ci 64)], ec 30 101 [(ci 0)], ec 31 99 [(.f 122), t30, (ci 1000)], .o 32 (.build (.st (.cons (.val (.nilFunc)) .nil)) [(0, 0, 1, (.f 123))]), .o 33 (.bsl 1 120 (.st (.cons (.val (.nilFunc)) .nil)) [(0, 0, 1, t2), (1, 1, 1, t4), (2, 2, 1, t5), (3, 3, 1, t7), (4, 4, 1, t9), (5, 5, 1, t11), (6, 6, 1, t12), (7, 7, 1, t14), (8, 8, 1, t16), (9, 9, 1, t18), (10, 10, 1, t20), (11, 11, 1, t22), (12, 12, 1, t24), (13, 13, 1, t26), (14, 14, 1, t28), (15, 15, 1, t29), (16, 16, 1, t31), (17, 17, 1, t32)]), em 0 t33])
  .ret))
theorem hc_policy_rules : compF Tryz.prog 34 Tryz.f64 = some (ic_policy_rules, [.t 0]) := by kernel_rfl
theorem fn_aging_lateness : Tryz.prog.funcs[aging_lateness]? = some Tryz.f65 := Tryz.func65
theorem nt_aging_lateness : Tryz.f65.ntmps = 13 := Tryz.ntmps65
def ic_aging_lateness : IC := (.seq (io [.o 2 (.box t0), em 4 (ci 0)])
  (.seq (.seq (io [em 5 t1, ef 6 0 0 t2, el 7 false 1 t6, eb 8 .leq t5 t7])
  (.cond t8
  (.seq (io [em 4 (ci 0)])
  .ret)
  .skip))
  (.seq (io [em 9 t1, ef 10 0 0 t2, el 11 false 1 t10, eb 12 .sub t9 t11, em 4 t12])
  .ret)))
theorem hc_aging_lateness : compF Tryz.prog 13 Tryz.f65 = some (ic_aging_lateness, [.t 4]) := by kernel_rfl
theorem fn_ledger_Balance : Tryz.prog.funcs[ledger_Balance]? = some Tryz.f66 := Tryz.func66
theorem nt_ledger_Balance : Tryz.f66.ntmps = 26 := Tryz.ntmps66
def ic_ledger_Balance : IC := (.seq (io [.o 2 (.box t0), em 4 (ci 0), em 5 (ci 0)])
  (.seq (.seq (io [em 7 t1, eb 8 .lss t7 (ci 0), em 9 t8, .og 10 9 false (.mv t1), .og 11 9 false (.bin .geq t10 (ci 12)), .o 12 (.pick t9 ct t11)])
  (.cond t12
  (.seq (io [em 4 (ci 0), em 5 (ci 80)])
  .ret)
  .skip))
  (.seq (io [em 13 t1, ef 14 0 0 t2, .o 15 (.ixa 12 1 t14 t13), el 16 false 1 t15, em 6 t16])
  (.seq (.seq (io [em 17 t1, .o 18 (.ixa 12 1 (.g 0) t17), el 19 false 1 t18, eb 20 .gtr t19 (ci 0)])
  (.cond t20
  (.seq (io [em 21 t6, em 4 t21, em 5 (ci 0)])
  .ret)
  .skip))
  (.seq (.seq (io [em 22 t6, eb 23 .eql t22 (ci (-9223372036854775808))])
  (.cond t23
  (.seq (io [em 4 (ci 0), em 5 (ci 3)])
  .ret)
  .skip))
  (.seq (io [em 24 t6, .o 25 (.un .neg t24), em 4 t25, em 5 (ci 0)])
  .ret))))))
theorem hc_ledger_Balance : compF Tryz.prog 26 Tryz.f66 = some (ic_ledger_Balance, [.t 4, .t 5]) := by kernel_rfl
theorem fn_aging_sound : Tryz.prog.funcs[aging_sound]? = some Tryz.f67 := Tryz.func67
theorem nt_aging_sound : Tryz.f67.ntmps = 54 := Tryz.ntmps67
def ic_aging_sound : IC := (.seq (io [em 2 cf])
  (.seq (io [em 3 ct])
  (.seq (io [em 4 (ci 0)])
  (.seq (io [em 10 t0, .o 11 (.len t10), eb 12 .mul (ci 2) t11, .o 13 (.mks 1 8 2 zi (ci 0) t12), em 5 t13])
  (.seq .skip
  (.seq (.seq (io [em 14 t0, .o 15 (.len t14), em 16 (ci 0)])
  (.block 0 (.loop (.seq (io [eb 17 .lss t16 t15])
  (.seq (.cond t17
  .skip
  (.exit 0))
  (.seq (.block 1 (.seq (io [es 18 4 t14 t16, el 19 true 4 t18, .o 7 (.alloc (.st (zc (zc (zc (zf .nil)))))), .n (.sto 4 t7 t19)])
  (.seq (.seq (io [ef 20 0 0 t7, el 21 false 1 t20, em 22 t4, eb 23 .leq t21 t22, em 24 t23, .og 25 24 false (.fa 0 0 t7), .og 26 24 false (.ld false 1 t25), .og 27 24 false (.bin .gtr t26 (ci 3652059)), .o 28 (.pick t24 ct t27)])
  (.cond t28
  (.seq (io [em 3 cf])
  (.exit 0))
  .skip))
  (.seq (io [ef 29 0 0 t7, el 30 false 1 t29, em 4 t30])
  (.seq (io [ef 31 1 1 t7, el 32 false 1 t31, ef 33 2 2 t7, el 34 false 1 t33, .o 35 (.build (.arr 2 1 fun _ => zi) [(0, 0, 1, t32), (1, 1, 1, t34)]), em 36 (ci 0)])
  (.block 2 (.loop (.seq (io [eb 37 .lss t36 (ci 2)])
  (.seq (.cond t37
  .skip
  (.exit 2))
  (.seq (.block 3 (.seq (io [.o 38 (.ix false 2 1 t35 t36), em 9 t38])
  (.seq (.seq (io [em 39 t9, eb 40 .lss t39 (ci 0)])
  (.cond t40
  (.seq (io [em 3 cf])
  (.exit 0))
  .skip))
  (.ops [em 41 t5, em 42 t9, .o 43 (.bsl 1 2 zi [(0, 0, 1, t42)]), .o 44 (.app 1 8 2 t41 t43), em 5 t44]))))
  (.ops [eb 45 .add t36 (ci 1), em 36 t45])))))))))))
  (.ops [eb 46 .add t16 (ci 1), em 16 t46])))))))
  (.seq (.seq (io [em 47 t3])
  (.cond t47
  (.ops [em 49 t5, ec 50 124 [t49], em 48 t50, ex 51 0 t48, ex 52 1 t48, em 3 t52])
  .skip))
  (.seq (io [em 53 t3, em 2 t53])
  .ret))))))))
theorem hc_aging_sound : compF Tryz.prog 54 Tryz.f67 = some (ic_aging_sound, [.t 2]) := by kernel_rfl
theorem fn_aging_front : Tryz.prog.funcs[aging_front]? = some Tryz.f68 := Tryz.func68
theorem nt_aging_front : Tryz.f68.ntmps = 47 := Tryz.ntmps68
def ic_aging_front : IC := (.seq (io [.o 3 (.box t1), em 4 (ci 0)])
  (.seq (.seq (io [ef 8 1 1 t3, el 9 false 1 t8, eb 10 .leq t9 (ci 0)])
  (.cond t10
  (.seq (io [em 11 t0, .o 12 (.len t11), em 4 t12])
  .ret)
  .skip))
  (.seq (io [ef 13 0 0 t3, el 14 false 1 t13, .o 15 (.mm true t14 (ci 0)), em 5 t15])
  (.seq (.seq (io [em 16 t0, .o 17 (.len t16), em 18 (ci 0)])
  (.block 0 (.loop (.seq (io [eb 19 .lss t18 t17])
  (.seq (.cond t19
  .skip
  (.exit 0))
  (.seq (.block 1 (.seq (io [em 20 t18, em 6 t20])
  (.seq (.dops [em 21 t0, em 22 t6, es 23 4 t21 t22, ef 24 1 1 t23, el 25 false 1 t24, em 26 t0, em 27 t6, es 28 4 t26 t27, ef 29 2 2 t28, el 30 false 1 t29, eb 31 .add t25 t30, em 7 t31])
  (.seq (.seq (io [em 32 t6, em 33 t0, .o 34 (.len t33), eb 35 .sub t34 (ci 1), eb 36 .eql t32 t35, em 37 t36, .og 38 37 false (.mv t7), .og 39 37 false (.mv t5), .og 40 37 false (.bin .gtr t38 t39), .o 41 (.pick t37 ct t40)])
  (.cond t41
  (.seq (io [em 42 t6, em 4 t42])
  .ret)
  .skip))
  (.ops [em 43 t5, em 44 t7, eb 45 .sub t43 t44, em 5 t45])))))
  (.ops [eb 46 .add t18 (ci 1), em 18 t46])))))))
  (.seq (io [em 4 (ci 0)])
  .ret)))))
theorem hc_aging_front : compF Tryz.prog 47 Tryz.f68 = some (ic_aging_front, [.t 4]) := by kernel_rfl
theorem fn_r10_Days : Tryz.prog.funcs[r10_Days]? = some Tryz.f69 := Tryz.func69
theorem nt_r10_Days : Tryz.f69.ntmps = 23 := Tryz.ntmps69
def ic_r10_Days : IC := (.seq (io [.o 4 (.box t1), em 6 (ci 0)])
  (.seq (io [em 10 t0, el 11 true 2 t4, ec 12 47 [t10, t11], em 9 t12, ex 13 0 t9, ex 14 1 t9, em 7 t13, em 8 t14])
  (.seq (.seq (io [em 15 t8, .o 16 (.un .not t15)])
  (.cond t16
  (.seq (io [em 6 (ci 0)])
  .ret)
  .skip))
  (.seq (io [em 17 t0, em 18 t7, es 19 4 t17 t18, el 20 true 4 t19, em 21 t2, ec 22 125 [t20, t21], em 6 t22])
  .ret))))
theorem hc_r10_Days : compF Tryz.prog 23 Tryz.f69 = some (ic_r10_Days, [.t 6]) := by kernel_rfl
theorem fn_r10_PastDue : Tryz.prog.funcs[r10_PastDue]? = some Tryz.f70 := Tryz.func70
theorem nt_r10_PastDue : Tryz.f70.ntmps = 61 := Tryz.ntmps70
def ic_r10_PastDue : IC := (.seq (io [.o 4 (.box t1), em 6 (ci 0)])
  (.seq (io [em 10 t0, ec 11 72 [t10], em 7 t11])
  (.seq (.seq (io [ef 12 1 1 t4, el 13 false 1 t12, eb 14 .leq t13 (ci 0), em 15 t14, .og 16 15 false (.mv t7), .og 17 15 false (.len t16), .og 18 15 false (.bin .eql t17 (ci 0)), .o 19 (.pick t15 ct t18)])
  (.cond t19
  (.seq (io [em 6 (ci 0)])
  .ret)
  .skip))
  (.seq (.seq (io [em 20 t7, em 21 t7, .o 22 (.len t21), eb 23 .sub t22 (ci 1), es 24 4 t20 t23, ef 25 0 0 t24, el 26 false 1 t25, em 27 t2, eb 28 .lss t26 t27])
  (.cond t28
  (.seq (io [ef 29 1 1 t4, el 30 false 1 t29, em 6 t30])
  .ret)
  .skip))
  (.seq (io [em 8 (ci 0)])
  (.seq (.block 0 (.loop (.seq (.seq (io [em 31 t8, em 32 t7, .o 33 (.len t32), eb 34 .lss t31 t33, em 35 t34, .og 36 35 true (.mv t7), .og 37 35 true (.mv t8), .og 38 35 true (.ixs 4 t36 t37), .og 39 35 true (.fa 0 0 t38), .og 40 35 true (.ld false 1 t39), .og 41 35 true (.mv t2), .og 42 35 true (.bin .lss t40 t41), .o 43 (.pick t35 t42 cf)])
  (.cond t43
  .skip
  (.exit 0)))
  (.block 1 (.ops [em 44 t8, eb 45 .add t44 (ci 1), em 8 t45])))))
  (.seq (.dops [em 46 t7, em 47 t8, ec 48 126 [t46, t47], el 49 true 2 t4, ec 50 127 [t49], eb 51 .sub t48 t50, em 9 t51])
  (.seq (.seq (io [em 52 t9, eb 53 .lss t52 (ci 0)])
  (.cond t53
  (.seq (io [em 6 (ci 0)])
  .ret)
  .skip))
  (.seq (.seq (io [em 54 t9, ef 55 1 1 t4, el 56 false 1 t55, eb 57 .gtr t54 t56])
  (.cond t57
  (.seq (io [ef 58 1 1 t4, el 59 false 1 t58, em 6 t59])
  .ret)
  .skip))
  (.seq (io [em 60 t9, em 6 t60])
  .ret))))))))))
theorem hc_r10_PastDue : compF Tryz.prog 61 Tryz.f70 = some (ic_r10_PastDue, [.t 6]) := by kernel_rfl
theorem fn_r8_Balance : Tryz.prog.funcs[r8_Balance]? = some Tryz.f71 := Tryz.func71
theorem nt_r8_Balance : Tryz.f71.ntmps = 21 := Tryz.ntmps71
def ic_r8_Balance : IC := (.seq (io [.o 2 (.box t0), em 4 (ci 0), em 5 (ci 0)])
  (.seq (.seq (io [em 7 t1, ec 8 128 [t7], .o 9 (.un .not t8)])
  (.cond t9
  (.seq (io [em 4 (ci 0), em 5 (ci 80)])
  .ret)
  .skip))
  (.seq (io [em 10 t1, ef 11 0 0 t2, .o 12 (.ixa 12 1 t11 t10), el 13 false 1 t12, em 6 t13])
  (.seq (.seq (io [em 14 t1, ec 15 129 [t14]])
  (.cond t15
  (.seq (io [em 16 t6, em 4 t16, em 5 (ci 0)])
  .ret)
  .skip))
  (.seq (.seq (io [em 17 t6, eb 18 .eql t17 (ci (-9223372036854775808))])
  (.cond t18
  (.seq (io [em 4 (ci 0), em 5 (ci 3)])
  .ret)
  .skip))
  (.seq (io [em 19 t6, .o 20 (.un .neg t19), em 4 t20, em 5 (ci 0)])
  .ret))))))
theorem hc_r8_Balance : compF Tryz.prog 21 Tryz.f71 = some (ic_r8_Balance, [.t 4, .t 5]) := by kernel_rfl
theorem fn_r10_rows : Tryz.prog.funcs[r10_rows]? = some Tryz.f72 := Tryz.func72
theorem nt_r10_rows : Tryz.f72.ntmps = 6 := Tryz.ntmps72
def ic_r10_rows : IC := (.seq (io [em 2 (.c (.slice none 0 0))])
  (.seq (.seq (io [em 3 t0, ec 4 130 [t3]])
  (.cond t4
  (.seq (io [em 5 t0, em 2 t5])
  .ret)
  .skip))
  (.seq (io [em 2 (.c (.slice none 0 0))])
  .ret)))
theorem hc_r10_rows : compF Tryz.prog 6 Tryz.f72 = some (ic_r10_rows, [.t 2]) := by kernel_rfl
theorem fn_r10_satisfied : Tryz.prog.funcs[r10_satisfied]? = some Tryz.f73 := Tryz.func73
theorem nt_r10_satisfied : Tryz.f73.ntmps = 40 := Tryz.ntmps73
def ic_r10_satisfied : IC := (.seq (io [.o 3 (.box t1), em 4 (ci 0)])
  (.seq (.seq (io [ef 8 1 1 t3, el 9 false 1 t8, eb 10 .leq t9 (ci 0)])
  (.cond t10
  (.seq (io [em 11 t0, .o 12 (.len t11), em 4 t12])
  .ret)
  .skip))
  (.seq (io [em 5 (ci 0)])
  (.seq (io [em 6 (ci 0)])
  (.seq (.seq (io [em 7 (ci 0)])
  (.block 0 (.loop (.seq (.seq (io [em 13 t7, eb 14 .add t13 (ci 1), em 15 t0, .o 16 (.len t15), eb 17 .lss t14 t16])
  (.cond t17
  .skip
  (.exit 0)))
  (.seq (.block 1 (.seq (.dops [em 20 t6, em 21 t0, em 22 t7, es 23 4 t21 t22, ef 24 1 1 t23, el 25 false 1 t24, eb 26 .add t20 t25, em 27 t0, em 28 t7, es 29 4 t27 t28, ef 30 2 2 t29, el 31 false 1 t30, eb 32 .add t26 t31, em 6 t32])
  (.seq (io [em 33 t6, el 34 true 2 t3, ec 35 127 [t34], eb 36 .leq t33 t35])
  (.cond t36
  (.ops [em 37 t7, eb 38 .add t37 (ci 1), em 5 t38])
  .skip))))
  (.ops [em 18 t7, eb 19 .add t18 (ci 1), em 7 t19]))))))
  (.seq (io [em 39 t5, em 4 t39])
  .ret))))))
theorem hc_r10_satisfied : compF Tryz.prog 40 Tryz.f73 = some (ic_r10_satisfied, [.t 4]) := by kernel_rfl
theorem fn_money_magnitude : Tryz.prog.funcs[money_magnitude]? = some Tryz.f74 := Tryz.func74
theorem nt_money_magnitude : Tryz.f74.ntmps = 10 := Tryz.ntmps74
def ic_money_magnitude : IC := (.seq (io [em 2 (.c (.int .u64 0))])
  (.seq (.seq (io [em 3 t0, eb 4 .lss t3 (ci 0)])
  (.cond t4
  (.seq (io [em 5 t0, .o 6 (.conv .u64 t5), .o 7 (.un .neg t6), em 2 t7])
  .ret)
  .skip))
  (.seq (io [em 8 t0, .o 9 (.conv .u64 t8), em 2 t9])
  .ret)))
theorem hc_money_magnitude : compF Tryz.prog 10 Tryz.f74 = some (ic_money_magnitude, [.t 2]) := by kernel_rfl
theorem fn_math_bits_Mul64 : Tryz.prog.funcs[math_bits_Mul64]? = some Tryz.f75 := Tryz.func75
theorem nt_math_bits_Mul64 : Tryz.f75.ntmps = 51 := Tryz.ntmps75
def ic_math_bits_Mul64 : IC := (.seq (io [em 4 (.c (.int .u64 0)), em 5 (.c (.int .u64 0))])
  (.seq (io [em 14 t0, eb 15 .and t14 (.c (.int .u64 4294967295)), em 6 t15])
  (.seq (io [em 16 t0, eb 17 .shr t16 (.c (.int .u64 32)), em 7 t17])
  (.seq (io [em 18 t1, eb 19 .and t18 (.c (.int .u64 4294967295)), em 8 t19])
  (.seq (io [em 20 t1, eb 21 .shr t20 (.c (.int .u64 32)), em 9 t21])
  (.seq (io [em 22 t6, em 23 t8, eb 24 .mul t22 t23, em 10 t24])
  (.seq (io [em 25 t7, em 26 t8, eb 27 .mul t25 t26, em 28 t10, eb 29 .shr t28 (.c (.int .u64 32)), eb 30 .add t27 t29, em 11 t30])
  (.seq (io [em 31 t11, eb 32 .and t31 (.c (.int .u64 4294967295)), em 12 t32])
  (.seq (io [em 33 t11, eb 34 .shr t33 (.c (.int .u64 32)), em 13 t34])
  (.seq (io [em 35 t12, em 36 t6, em 37 t9, eb 38 .mul t36 t37, eb 39 .add t35 t38, em 12 t39])
  (.seq (io [em 40 t7, em 41 t9, eb 42 .mul t40 t41, em 43 t13, eb 44 .add t42 t43, em 45 t12, eb 46 .shr t45 (.c (.int .u64 32)), eb 47 .add t44 t46, em 4 t47])
  (.seq (io [em 48 t0, em 49 t1, eb 50 .mul t48 t49, em 5 t50])
  .ret))))))))))))
theorem hc_math_bits_Mul64 : compF Tryz.prog 51 Tryz.f75 = some (ic_math_bits_Mul64, [.t 4, .t 5]) := by kernel_rfl
theorem fn_math_bits_Div64 : Tryz.prog.funcs[math_bits_Div64]? = some Tryz.f76 := Tryz.func76
theorem nt_math_bits_Div64 : Tryz.f76.ntmps = 135 := Tryz.ntmps76
def ic_math_bits_Div64 : IC := (.seq (io [em 6 (.c (.int .u64 0)), em 7 (.c (.int .u64 0))])
  (.seq (.seq (io [em 19 t2, eb 20 .eql t19 (.c (.int .u64 0))])
  (.cond t20
  (.ops [el 21 false 1 (.g 1), .n (.dead)])
  .skip))
  (.seq (.seq (io [em 22 t2, em 23 t0, eb 24 .leq t22 t23])
  (.cond t24
  (.ops [el 25 false 1 (.g 2), .n (.dead)])
  .skip))
  (.seq (.seq (io [em 26 t0, eb 27 .eql t26 (.c (.int .u64 0))])
  (.cond t27
  (.seq (.dops [em 28 t1, em 29 t2, eb 30 .quo t28 t29, em 31 t1, em 32 t2, eb 33 .rem t31 t32, em 6 t30, em 7 t33])
  .ret)
  .skip))
  (.seq (io [em 34 t2, ec 35 131 [t34], .o 36 (.conv .u64 t35), em 8 t36])
  (.seq (io [em 37 t2, em 38 t8, eb 39 .shl t37 t38, em 2 t39])
  (.seq (io [em 40 t2, eb 41 .shr t40 (.c (.int .u64 32)), em 9 t41])
  (.seq (io [em 42 t2, eb 43 .and t42 (.c (.int .u64 4294967295)), em 10 t43])
  (.seq (io [em 44 t0, em 45 t8, eb 46 .shl t44 t45, em 47 t1, em 48 t8, eb 49 .sub (.c (.int .u64 64)) t48, eb 50 .shr t47 t49, eb 51 .or t46 t50, em 11 t51])
  (.seq (io [em 52 t1, em 53 t8, eb 54 .shl t52 t53, em 12 t54])
  (.seq (io [em 55 t12, eb 56 .shr t55 (.c (.int .u64 32)), em 13 t56])
  (.seq (io [em 57 t12, eb 58 .and t57 (.c (.int .u64 4294967295)), em 14 t58])
  (.seq (io [em 59 t11, em 60 t9, eb 61 .quo t59 t60, em 15 t61])
  (.seq (io [em 62 t11, em 63 t15, em 64 t9, eb 65 .mul t63 t64, eb 66 .sub t62 t65, em 16 t66])
  (.seq (.block 0 (.loop (.seq (.seq (io [em 67 t15, eb 68 .geq t67 (.c (.int .u64 4294967296)), em 69 t68, .og 70 69 false (.mv t15), .og 71 69 false (.mv t10), .og 72 69 false (.bin .mul t70 t71), .og 73 69 false (.mv t16), .og 74 69 false (.bin .mul (.c (.int .u64 4294967296)) t73), .og 75 69 false (.mv t13), .og 76 69 false (.bin .add t74 t75), .og 77 69 false (.bin .gtr t72 t76), .o 78 (.pick t69 ct t77)])
  (.cond t78
  .skip
  (.exit 0)))
  (.block 1 (.seq (io [em 79 t15, eb 80 .sub t79 (.c (.int .u64 1)), em 15 t80])
  (.seq (io [em 81 t16, em 82 t9, eb 83 .add t81 t82, em 16 t83])
  (.seq (io [em 84 t16, eb 85 .geq t84 (.c (.int .u64 4294967296))])
  (.cond t85
  (.exit 0)
  .skip))))))))
  (.seq (io [em 86 t11, eb 87 .mul t86 (.c (.int .u64 4294967296)), em 88 t13, eb 89 .add t87 t88, em 90 t15, em 91 t2, eb 92 .mul t90 t91, eb 93 .sub t89 t92, em 17 t93])
  (.seq (io [em 94 t17, em 95 t9, eb 96 .quo t94 t95, em 18 t96])
  (.seq (io [em 97 t17, em 98 t18, em 99 t9, eb 100 .mul t98 t99, eb 101 .sub t97 t100, em 16 t101])
  (.seq (.block 2 (.loop (.seq (.seq (io [em 102 t18, eb 103 .geq t102 (.c (.int .u64 4294967296)), em 104 t103, .og 105 104 false (.mv t18), .og 106 104 false (.mv t10), .og 107 104 false (.bin .mul t105 t106), .og 108 104 false (.mv t16), .og 109 104 false (.bin .mul (.c (.int .u64 4294967296)) t108), .og 110 104 false (.mv t14), .og 111 104 false (.bin .add t109 t110), .og 112 104 false (.bin .gtr t107 t111), .o 113 (.pick t104 ct t112)])
  (.cond t113
  .skip
  (.exit 2)))
  (.block 3 (.seq (io [em 114 t18, eb 115 .sub t114 (.c (.int .u64 1)), em 18 t115])
  (.seq (io [em 116 t16, em 117 t9, eb 118 .add t116 t117, em 16 t118])
  (.seq (io [em 119 t16, eb 120 .geq t119 (.c (.int .u64 4294967296))])
  (.cond t120
  (.exit 2)
  .skip))))))))
  (.seq (io [em 121 t15, eb 122 .mul t121 (.c (.int .u64 4294967296)), em 123 t18, eb 124 .add t122 t123, em 125 t17, eb 126 .mul t125 (.c (.int .u64 4294967296)), em 127 t14, eb 128 .add t126 t127, em 129 t18, em 130 t2, eb 131 .mul t129 t130, eb 132 .sub t128 t131, em 133 t8, eb 134 .shr t132 t133, em 6 t124, em 7 t134])
  .ret))))))))))))))))))))
theorem hc_math_bits_Div64 : compF Tryz.prog 135 Tryz.f76 = some (ic_math_bits_Div64, [.t 6, .t 7]) := by kernel_rfl
theorem fn_money_withSign : Tryz.prog.funcs[money_withSign]? = some Tryz.f77 := Tryz.func77
theorem nt_money_withSign : Tryz.f77.ntmps = 16 := Tryz.ntmps77
def ic_money_withSign : IC := (.seq (io [em 4 (ci 0), em 5 cf])
  (.seq (.seq (io [em 6 t0])
  (.cond t6
  (.seq (.seq (io [em 7 t1, eb 8 .gtr t7 (.c (.int .u64 9223372036854775808))])
  (.cond t8
  (.seq (io [em 4 (ci 0), em 5 cf])
  .ret)
  .skip))
  (.seq (io [em 9 t1, .o 10 (.un .neg t9), .o 11 (.conv .i64 t10), em 4 t11, em 5 ct])
  .ret))
  .skip))
  (.seq (.seq (io [em 12 t1, eb 13 .gtr t12 (.c (.int .u64 9223372036854775807))])
  (.cond t13
  (.seq (io [em 4 (ci 0), em 5 cf])
  .ret)
  .skip))
  (.seq (io [em 14 t1, .o 15 (.conv .i64 t14), em 4 t15, em 5 ct])
  .ret))))
theorem hc_money_withSign : compF Tryz.prog 16 Tryz.f77 = some (ic_money_withSign, [.t 4, .t 5]) := by kernel_rfl
theorem fn_r1_size : Tryz.prog.funcs[r1_size]? = some Tryz.f78 := Tryz.func78
theorem nt_r1_size : Tryz.f78.ntmps = 12 := Tryz.ntmps78
def ic_r1_size : IC := (.seq (io [em 2 (.c (.int .u64 0))])
  (.seq (.seq (io [em 3 t0, eb 4 .lss t3 (ci 0)])
  (.cond t4
  (.seq (io [em 5 t0, eb 6 .add t5 (ci 1), .o 7 (.un .neg t6), .o 8 (.conv .u64 t7), eb 9 .add t8 (.c (.int .u64 1)), em 2 t9])
  .ret)
  .skip))
  (.seq (io [em 10 t0, .o 11 (.conv .u64 t10), em 2 t11])
  .ret)))
theorem hc_r1_size : compF Tryz.prog 12 Tryz.f78 = some (ic_r1_size, [.t 2]) := by kernel_rfl
theorem fn_r1_over : Tryz.prog.funcs[r1_over]? = some Tryz.f79 := Tryz.func79
theorem nt_r1_over : Tryz.f79.ntmps = 45 := Tryz.ntmps79
def ic_r1_over : IC := (.seq (io [em 4 (.c (.slice none 0 0)), em 5 (.c (.int .u64 0))])
  (.seq (io [em 6 (.c (.slice none 0 0))])
  (.seq (.seq (io [em 7 (ci 0)])
  (.block 0 (.loop (.seq (.seq (io [em 10 t7, em 11 t0, .o 12 (.len t11), eb 13 .lss t10 t12])
  (.cond t13
  .skip
  (.exit 0)))
  (.seq (.block 1 (.ops [em 16 t6, .o 17 (.bsl 1 3 zi [(0, 0, 1, (ci 0))]), .o 18 (.app 1 8 3 t16 t17), em 6 t18]))
  (.ops [em 14 t7, eb 15 .add t14 (ci 1), em 7 t15]))))))
  (.seq (io [em 8 (.c (.int .u64 0))])
  (.seq (.seq (io [em 19 t0, .o 20 (.len t19), eb 21 .sub t20 (ci 1), em 9 t21])
  (.block 2 (.loop (.seq (.seq (io [em 22 t9, eb 23 .geq t22 (ci 0)])
  (.cond t23
  .skip
  (.exit 2)))
  (.seq (.block 3 (.seq (io [em 26 t8, eb 27 .mul (.c (.int .u64 2)) t26, em 28 t0, em 29 t9, es 30 1 t28 t29, el 31 false 1 t30, .o 32 (.conv .u64 t31), eb 33 .add t27 t32, em 8 t33])
  (.seq (io [em 34 t8, em 35 t1, eb 36 .geq t34 t35])
  (.cond t36
  (.seq (io [em 37 t8, em 38 t1, eb 39 .sub t37 t38, em 8 t39])
  (.ops [em 40 t6, em 41 t9, es 42 1 t40 t41, .n (.sto 1 t42 (ci 1))]))
  .skip))))
  (.ops [em 24 t9, eb 25 .sub t24 (ci 1), em 9 t25]))))))
  (.seq (io [em 43 t6, em 44 t8, em 4 t43, em 5 t44])
  .ret))))))
theorem hc_r1_over : compF Tryz.prog 45 Tryz.f79 = some (ic_r1_over, [.t 4, .t 5]) := by kernel_rfl
theorem fn_r1_times : Tryz.prog.funcs[r1_times]? = some Tryz.f80 := Tryz.func80
theorem nt_r1_times : Tryz.f80.ntmps = 70 := Tryz.ntmps80
def ic_r1_times : IC := (.seq (io [em 4 (.c (.slice none 0 0))])
  (.seq (io [em 5 (.c (.slice none 0 0))])
  (.seq (.seq (io [em 6 (ci 0)])
  (.block 0 (.loop (.seq (.seq (io [em 12 t6, eb 13 .lss t12 (ci 128)])
  (.cond t13
  .skip
  (.exit 0)))
  (.seq (.block 1 (.ops [em 16 t5, .o 17 (.bsl 1 3 zi [(0, 0, 1, (ci 0))]), .o 18 (.app 1 8 3 t16 t17), em 5 t18]))
  (.ops [em 14 t6, eb 15 .add t14 (ci 1), em 6 t15]))))))
  (.seq (.seq (io [em 7 (ci 0)])
  (.block 2 (.loop (.seq (.seq (io [em 19 t7, em 20 t0, .o 21 (.len t20), eb 22 .lss t19 t21])
  (.cond t22
  .skip
  (.exit 2)))
  (.seq (.block 3 (.seq (io [em 8 (ci 0)])
  (.block 4 (.loop (.seq (.seq (io [em 25 t8, em 26 t1, .o 27 (.len t26), eb 28 .lss t25 t27])
  (.cond t28
  .skip
  (.exit 4)))
  (.seq (.block 5 (.dops [em 31 t5, em 32 t7, em 33 t8, eb 34 .add t32 t33, em 35 t5, em 36 t7, em 37 t8, eb 38 .add t36 t37, es 39 1 t35 t38, el 40 false 1 t39, em 41 t0, em 42 t7, es 43 1 t41 t42, el 44 false 1 t43, em 45 t1, em 46 t8, es 47 1 t45 t46, el 48 false 1 t47, eb 49 .mul t44 t48, eb 50 .add t40 t49, es 51 1 t31 t34, .n (.sto 1 t51 t50)]))
  (.ops [em 29 t8, eb 30 .add t29 (ci 1), em 8 t30])))))))
  (.ops [em 23 t7, eb 24 .add t23 (ci 1), em 7 t24]))))))
  (.seq (io [em 9 (ci 0)])
  (.seq (.seq (io [em 10 (ci 0)])
  (.block 6 (.loop (.seq (.seq (io [em 52 t10, eb 53 .lss t52 (ci 128)])
  (.cond t53
  .skip
  (.exit 6)))
  (.seq (.block 7 (.seq (io [em 56 t5, em 57 t10, es 58 1 t56 t57, el 59 false 1 t58, em 60 t9, eb 61 .add t59 t60, em 11 t61])
  (.seq (io [em 62 t5, em 63 t10, em 64 t11, eb 65 .rem t64 (ci 2), es 66 1 t62 t63, .n (.sto 1 t66 t65)])
  (.ops [em 67 t11, eb 68 .quo t67 (ci 2), em 9 t68]))))
  (.ops [em 54 t10, eb 55 .add t54 (ci 1), em 10 t55]))))))
  (.seq (io [em 69 t5, em 4 t69])
  .ret)))))))
theorem hc_r1_times : compF Tryz.prog 70 Tryz.f80 = some (ic_r1_times, [.t 4]) := by kernel_rfl
theorem fn_r1_digits : Tryz.prog.funcs[r1_digits]? = some Tryz.f81 := Tryz.func81
theorem nt_r1_digits : Tryz.f81.ntmps = 18 := Tryz.ntmps81
def ic_r1_digits : IC := (.seq (io [em 2 (.c (.slice none 0 0))])
  (.seq (io [em 3 (.c (.slice none 0 0))])
  (.seq (.seq (io [em 4 (ci 0)])
  (.block 0 (.loop (.seq (.seq (io [em 5 t4, eb 6 .lss t5 (ci 64)])
  (.cond t6
  .skip
  (.exit 0)))
  (.seq (.block 1 (.seq (io [em 9 t3, em 10 t0, eb 11 .rem t10 (.c (.int .u64 2)), .o 12 (.conv .i64 t11), .o 13 (.bsl 1 3 zi [(0, 0, 1, t12)]), .o 14 (.app 1 8 3 t9 t13), em 3 t14])
  (.ops [em 15 t0, eb 16 .quo t15 (.c (.int .u64 2)), em 0 t16])))
  (.ops [em 7 t4, eb 8 .add t7 (ci 1), em 4 t8]))))))
  (.seq (io [em 17 t3, em 2 t17])
  .ret))))
theorem hc_r1_digits : compF Tryz.prog 18 Tryz.f81 = some (ic_r1_digits, [.t 2]) := by kernel_rfl
theorem fn_r1_more : Tryz.prog.funcs[r1_more]? = some Tryz.f82 := Tryz.func82
theorem nt_r1_more : Tryz.f82.ntmps = 27 := Tryz.ntmps82
def ic_r1_more : IC := (.seq (io [em 2 (.c (.slice none 0 0))])
  (.seq (io [em 3 (.c (.slice none 0 0))])
  (.seq (io [em 4 (ci 1)])
  (.seq (.seq (io [em 5 (ci 0)])
  (.block 0 (.loop (.seq (.seq (io [em 7 t5, em 8 t0, .o 9 (.len t8), eb 10 .lss t7 t9])
  (.cond t10
  .skip
  (.exit 0)))
  (.seq (.block 1 (.seq (io [em 13 t0, em 14 t5, es 15 1 t13 t14, el 16 false 1 t15, em 17 t4, eb 18 .add t16 t17, em 6 t18])
  (.seq (io [em 19 t3, em 20 t6, eb 21 .rem t20 (ci 2), .o 22 (.bsl 1 3 zi [(0, 0, 1, t21)]), .o 23 (.app 1 8 3 t19 t22), em 3 t23])
  (.ops [em 24 t6, eb 25 .quo t24 (ci 2), em 4 t25]))))
  (.ops [em 11 t5, eb 12 .add t11 (ci 1), em 5 t12]))))))
  (.seq (io [em 26 t3, em 2 t26])
  .ret)))))
theorem hc_r1_more : compF Tryz.prog 27 Tryz.f82 = some (ic_r1_more, [.t 2]) := by kernel_rfl
theorem fn_r1_signed : Tryz.prog.funcs[r1_signed]? = some Tryz.f83 := Tryz.func83
theorem nt_r1_signed : Tryz.f83.ntmps = 47 := Tryz.ntmps83
def ic_r1_signed : IC := (.seq (io [em 4 (ci 0), em 5 cf])
  (.seq (.seq (io [em 6 (ci 64)])
  (.block 0 (.loop (.seq (.seq (io [em 9 t6, em 10 t1, .o 11 (.len t10), eb 12 .lss t9 t11])
  (.cond t12
  .skip
  (.exit 0)))
  (.seq (.block 1 (.seq (io [em 15 t1, em 16 t6, es 17 1 t15 t16, el 18 false 1 t17, eb 19 .neq t18 (ci 0)])
  (.cond t19
  (.seq (io [em 4 (ci 0), em 5 cf])
  .ret)
  .skip)))
  (.ops [em 13 t6, eb 14 .add t13 (ci 1), em 6 t14]))))))
  (.seq (io [em 7 (.c (.int .u64 0))])
  (.seq (.seq (io [em 8 (ci 63)])
  (.block 2 (.loop (.seq (.seq (io [em 20 t8, eb 21 .geq t20 (ci 0)])
  (.cond t21
  .skip
  (.exit 2)))
  (.seq (.block 3 (.ops [em 24 t7, eb 25 .mul (.c (.int .u64 2)) t24, em 26 t1, em 27 t8, es 28 1 t26 t27, el 29 false 1 t28, .o 30 (.conv .u64 t29), eb 31 .add t25 t30, em 7 t31]))
  (.ops [em 22 t8, eb 23 .sub t22 (ci 1), em 8 t23]))))))
  (.seq (.seq (io [em 32 t0, .o 33 (.un .not t32)])
  (.cond t33
  (.seq (.seq (io [em 34 t7, eb 35 .gtr t34 (.c (.int .u64 9223372036854775807))])
  (.cond t35
  (.seq (io [em 4 (ci 0), em 5 cf])
  .ret)
  .skip))
  (.seq (io [em 36 t7, .o 37 (.conv .i64 t36), em 4 t37, em 5 ct])
  .ret))
  .skip))
  (.seq (.seq (io [em 38 t7, eb 39 .gtr t38 (.c (.int .u64 9223372036854775808))])
  (.cond t39
  (.seq (io [em 4 (ci 0), em 5 cf])
  .ret)
  .skip))
  (.seq (.seq (io [em 40 t7, eb 41 .eql t40 (.c (.int .u64 0))])
  (.cond t41
  (.seq (io [em 4 (ci 0), em 5 ct])
  .ret)
  .skip))
  (.seq (io [em 42 t7, eb 43 .sub t42 (.c (.int .u64 1)), .o 44 (.conv .i64 t43), .o 45 (.un .neg t44), eb 46 .sub t45 (ci 1), em 4 t46, em 5 ct])
  .ret))))))))
theorem hc_r1_signed : compF Tryz.prog 47 Tryz.f83 = some (ic_r1_signed, [.t 4, .t 5]) := by kernel_rfl
theorem fn_r14_begin : Tryz.prog.funcs[r14_begin]? = some Tryz.f84 := Tryz.func84
theorem nt_r14_begin : Tryz.f84.ntmps = 17 := Tryz.ntmps84
def ic_r14_begin : IC := (.seq (io [.o 2 (.box t0), .o 3 (.box t1), .o 4 (.alloc (.st (.cons (.st (zc (zc (zc (zc (zc (zc (zc (zc (zc (zc (zc (zc (zc (zc (zc (zc (zc (.cons zs .nil))))))))))))))))))) (.cons (.st (zc (.cons (.st (zc (zc (zc (zc (zc (zc .nil))))))) (.cons zs (.cons (.st (.cons (.arr 12 1 fun _ => zi) .nil)) (.cons (.st (zc (zf (zc (zc (zc (zc (zc (zc (zc (zc (zc (zc (zc (zc (zc .nil)))))))))))))))) (zc (zc (zc (.cons (.st (zc (zc (zc (zc (zc .nil)))))) (zf (zc (zc .nil))))))))))))) (.cons (.st (zc (zc (zc (zc (zc .nil)))))) (.cons zs (zc .nil)))))))])
  (.seq (io [el 8 true 18 t2, ec 9 17 [t8], em 7 t9, ex 10 0 t7, ex 11 1 t7, em 5 t10, em 6 t11])
  (.seq (.dops [el 12 true 18 t2, el 13 true 46 t3, ec 14 132 [t13], em 15 t5, .o 16 (.build (.st (.cons (.st (zc (zc (zc (zc (zc (zc (zc (zc (zc (zc (zc (zc (zc (zc (zc (zc (zc (.cons zs .nil))))))))))))))))))) (.cons (.st (zc (.cons (.st (zc (zc (zc (zc (zc (zc .nil))))))) (.cons zs (.cons (.st (.cons (.arr 12 1 fun _ => zi) .nil)) (.cons (.st (zc (zf (zc (zc (zc (zc (zc (zc (zc (zc (zc (zc (zc (zc (zc .nil)))))))))))))))) (zc (zc (zc (.cons (.st (zc (zc (zc (zc (zc .nil)))))) (zf (zc (zc .nil))))))))))))) (.cons (.st (zc (zc (zc (zc (zc .nil)))))) (.cons zs (zc .nil)))))) [(0, 0, 18, t12), (1, 18, 46, t14), (4, 70, 1, t15)]), .n (.sto 71 t4 t16)])
  .ret)))
theorem hc_r14_begin : compF Tryz.prog 17 Tryz.f84 = some (ic_r14_begin, [.c 4 true 71]) := by kernel_rfl
theorem fn_r14_fail : Tryz.prog.funcs[r14_fail]? = some Tryz.f85 := Tryz.func85
theorem nt_r14_fail : Tryz.f85.ntmps = 16 := Tryz.ntmps85
def ic_r14_fail : IC := (.seq (io [.o 3 (.box t0), .o 6 (.alloc (.st (.cons (.st (zc (zc (zc (zc (zc (zc (zc (zc (zc (zc (zc (zc (zc (zc (zc (zc (zc (.cons zs .nil))))))))))))))))))) (.cons (.st (zc (.cons (.st (zc (zc (zc (zc (zc (zc .nil))))))) (.cons zs (.cons (.st (.cons (.arr 12 1 fun _ => zi) .nil)) (.cons (.st (zc (zf (zc (zc (zc (zc (zc (zc (zc (zc (zc (zc (zc (zc (zc .nil)))))))))))))))) (zc (zc (zc (.cons (.st (zc (zc (zc (zc (zc .nil)))))) (zf (zc (zc .nil))))))))))))) (.cons (.st (zc (zc (zc (zc (zc .nil)))))) (.cons zs (zc .nil)))))))])
  (.seq (.seq (io [ef 7 4 70 t3, el 8 false 1 t7, eb 9 .eql t8 (ci 0), em 10 t9, .og 11 10 true (.mv t1), .o 12 (.pick t10 t11 cf)])
  (.cond t12
  (.ops [em 13 t2, ef 14 4 70 t3, .n (.sto 1 t14 t13)])
  .skip))
  (.seq (io [el 15 true 71 t3, .n (.sto 71 t6 t15)])
  .ret)))
theorem hc_r14_fail : compF Tryz.prog 16 Tryz.f85 = some (ic_r14_fail, [.c 6 true 71]) := by kernel_rfl
theorem fn_r14_wrong : Tryz.prog.funcs[r14_wrong]? = some Tryz.f86 := Tryz.func86
theorem nt_r14_wrong : Tryz.f86.ntmps = 59 := Tryz.ntmps86
def ic_r14_wrong : IC := (.seq (io [.o 1 (.box t0), em 2 cf])
  (.seq (.seq (io [ef 3 0 0 t1, el 4 false 1 t3, eb 5 .lss t4 (ci 0), em 6 t5, .og 7 6 false (.fa 0 0 t1), .og 8 6 false (.ld false 1 t7), .og 9 6 false (.bin .gtr t8 (ci 2)), .o 10 (.pick t6 ct t9), em 11 t10, .og 12 11 false (.fa 1 1 t1), .og 13 11 false (.ld false 1 t12), .og 14 11 false (.bin .lss t13 (ci 1)), .o 15 (.pick t11 ct t14), em 16 t15, .og 17 16 false (.fa 1 1 t1), .og 18 16 false (.ld false 1 t17), .og 19 16 false (.bin .gtr t18 (ci 10000000000000)), .o 20 (.pick t16 ct t19), em 21 t20, .og 22 21 false (.fa 2 2 t1), .og 23 21 false (.ld false 1 t22), .og 24 21 false (.bin .lss t23 (ci 0)), .o 25 (.pick t21 ct t24), em 26 t25, .og 27 26 false (.fa 2 2 t1), .og 28 26 false (.ld false 1 t27), .og 29 26 false (.bin .gtr t28 (ci 100000)), .o 30 (.pick t26 ct t29)])
  (.cond t30
  (.seq (io [em 2 ct])
  .ret)
  .skip))
  (.seq (io [ef 31 3 3 t1, el 32 false 1 t31, eb 33 .lss t32 (ci 1), em 34 t33, .og 35 34 false (.fa 3 3 t1), .og 36 34 false (.ld false 1 t35), .og 37 34 false (.bin .gtr t36 (ci 120)), .o 38 (.pick t34 ct t37), em 39 t38, .og 40 39 false (.fa 4 4 t1), .og 41 39 false (.ld false 1 t40), .og 42 39 false (.bin .lss t41 (ci 1)), .o 43 (.pick t39 ct t42), em 44 t43, .og 45 44 false (.fa 4 4 t1), .og 46 44 false (.ld false 1 t45), .og 47 44 false (.bin .gtr t46 (ci 3652059)), .o 48 (.pick t44 ct t47), em 49 t48, .og 50 49 false (.fa 5 5 t1), .og 51 49 false (.ld false 1 t50), .og 52 49 false (.bin .lss t51 (ci 0)), .o 53 (.pick t49 ct t52), em 54 t53, .og 55 54 false (.fa 5 5 t1), .og 56 54 false (.ld false 1 t55), .og 57 54 false (.bin .gtr t56 (ci 3)), .o 58 (.pick t54 ct t57), em 2 t58])
  .ret)))
theorem hc_r14_wrong : compF Tryz.prog 59 Tryz.f86 = some (ic_r14_wrong, [.t 2]) := by kernel_rfl
theorem fn_r3_Plan : Tryz.prog.funcs[r3_Plan]? = some Tryz.f87 := Tryz.func87
theorem nt_r3_Plan : Tryz.f87.ntmps = 81 := Tryz.ntmps87
def ic_r3_Plan : IC := (.seq (io [.o 2 (.box t0), em 4 (.c (.slice none 0 0)), em 5 cf])
  (.seq (.seq (io [el 15 true 6 t2, ec 16 133 [t15], .o 17 (.un .not t16), em 18 t17, .og 19 18 false (.mv t1), .og 20 18 false (.len t19), .og 21 18 false (.bin .gtr t20 (ci 64)), .o 22 (.pick t18 ct t21)])
  (.cond t22
  (.seq (io [em 4 (.c (.slice none 0 0)), em 5 cf])
  .ret)
  .skip))
  (.seq (io [ef 24 1 1 t2, el 25 false 1 t24, ef 26 2 2 t2, el 27 false 1 t26, ef 28 3 3 t2, el 29 false 1 t28, ec 30 134 [t25, t27, t29], em 23 t30, ex 31 0 t23, ex 32 1 t23, em 6 t31, em 7 t32])
  (.seq (io [em 8 (.c (.slice none 0 0))])
  (.seq (io [ef 33 1 1 t2, el 34 false 1 t33, em 9 t34])
  (.seq (.seq (io [em 10 (ci 1)])
  (.block 0 (.loop (.seq (.seq (io [em 35 t10, ef 36 3 3 t2, el 37 false 1 t36, eb 38 .leq t35 t37])
  (.cond t38
  .skip
  (.exit 0)))
  (.seq (.block 1 (.seq (io [em 41 t9, ef 42 2 2 t2, el 43 false 1 t42, ec 44 135 [t41, t43], em 11 t44])
  (.seq (io [el 45 true 6 t2, em 46 t6, em 47 t10, em 48 t9, em 49 t11, ec 50 136 [t45, t46, t47, t48, t49], em 12 t50])
  (.seq (io [em 51 t9, eb 52 .gtr t51 (ci 0), em 53 t52, .og 54 53 true (.mv t11), .og 55 53 true (.bin .gtr t54 (ci 0)), .og 56 53 true (.mv t55), .og 57 56 false (.mv t12), .og 58 56 false (.bin .gtr t57 (ci 0)), .og 59 53 true (.pick t56 ct t58), .o 60 (.pick t53 t59 cf)])
  (.cond t60
  (.seq (io [el 62 true 6 t2, em 63 t1, em 64 t10, ec 65 137 [t62, t63, t64], em 61 t65, ex 66 0 t61, ex 67 1 t61, em 13 t66, em 14 t67])
  (.seq (.seq (io [em 68 t14, .o 69 (.un .not t68)])
  (.cond t69
  (.seq (io [em 4 (.c (.slice none 0 0)), em 5 cf])
  .ret)
  .skip))
  (.seq (io [em 70 t8, em 71 t13, em 72 t11, em 73 t12, .o 74 (.build (.st (zc (zc (zc (zf .nil))))) [(0, 0, 1, t71), (1, 1, 1, t72), (2, 2, 1, t73)]), .o 75 (.bsl 4 72 (.st (zc (zc (zc (zf .nil))))) [(0, 0, 4, t74)]), .o 76 (.app 4 32 72 t70 t75), em 8 t76])
  (.ops [em 77 t9, em 78 t12, eb 79 .sub t77 t78, em 9 t79]))))
  .skip)))))
  (.ops [em 39 t10, eb 40 .add t39 (ci 1), em 10 t40]))))))
  (.seq (io [em 80 t8, em 4 t80, em 5 ct])
  .ret)))))))
theorem hc_r3_Plan : compF Tryz.prog 81 Tryz.f87 = some (ic_r3_Plan, [.t 4, .t 5]) := by kernel_rfl
theorem fn_r13_Fresh : Tryz.prog.funcs[r13_Fresh]? = some Tryz.f88 := Tryz.func88
theorem nt_r13_Fresh : Tryz.f88.ntmps = 2 := Tryz.ntmps88
def ic_r13_Fresh : IC := (.seq (io [.o 0 (.alloc (.st (zc (zf (zc (zc (zc (zc (zc (zc (zc (zc (zc (zc (zc (zc (zc .nil)))))))))))))))))])
  (.seq (io [.o 1 (.build (.st (zc (zf (zc (zc (zc (zc (zc (zc (zc (zc (zc (zc (zc (zc (zc .nil)))))))))))))))) [(0, 0, 1, (ci 1))]), .n (.sto 15 t0 t1)])
  .ret))
theorem hc_r13_Fresh : compF Tryz.prog 2 Tryz.f88 = some (ic_r13_Fresh, [.c 0 true 15]) := by kernel_rfl
theorem fn_r14_posted : Tryz.prog.funcs[r14_posted]? = some Tryz.f89 := Tryz.func89
theorem nt_r14_posted : Tryz.f89.ntmps = 25 := Tryz.ntmps89
def ic_r14_posted : IC := (.seq (io [.o 2 (.box t0), .o 4 (.alloc (.st (.cons (.st (zc (zc (zc (zc (zc (zc (zc (zc (zc (zc (zc (zc (zc (zc (zc (zc (zc (.cons zs .nil))))))))))))))))))) (.cons (.st (zc (.cons (.st (zc (zc (zc (zc (zc (zc .nil))))))) (.cons zs (.cons (.st (.cons (.arr 12 1 fun _ => zi) .nil)) (.cons (.st (zc (zf (zc (zc (zc (zc (zc (zc (zc (zc (zc (zc (zc (zc (zc .nil)))))))))))))))) (zc (zc (zc (.cons (.st (zc (zc (zc (zc (zc .nil)))))) (zf (zc (zc .nil))))))))))))) (.cons (.st (zc (zc (zc (zc (zc .nil)))))) (.cons zs (zc .nil)))))))])
  (.seq (.seq (io [ef 7 4 70 t2, el 8 false 1 t7, eb 9 .neq t8 (ci 0)])
  (.cond t9
  (.seq (io [el 10 true 71 t2, .n (.sto 71 t4 t10)])
  .ret)
  .skip))
  (.seq (io [ef 12 1 18 t2, ef 13 3 8 t12, el 14 true 12 t13, em 15 t1, ec 16 138 [t14, t15], em 11 t16, ex 17 0 t11, ex 18 1 t11, .o 5 (.alloc (.st (.cons (.arr 12 1 fun _ => zi) .nil))), .n (.sto 12 t5 t17), em 6 t18])
  (.seq (io [el 19 true 12 t5, ef 20 1 18 t2, ef 21 3 8 t20, .n (.sto 12 t21 t19)])
  (.seq (io [em 22 t6, ef 23 4 70 t2, .n (.sto 1 t23 t22)])
  (.seq (io [el 24 true 71 t2, .n (.sto 71 t4 t24)])
  .ret))))))
theorem hc_r14_posted : compF Tryz.prog 25 Tryz.f89 = some (ic_r14_posted, [.c 4 true 71]) := by kernel_rfl
theorem fn_r14_move : Tryz.prog.funcs[r14_move]? = some Tryz.f90 := Tryz.func90
theorem nt_r14_move : Tryz.f90.ntmps = 19 := Tryz.ntmps90
def ic_r14_move : IC := (.seq (io [em 8 (.c (.slice none 0 0))])
  (.seq (.seq (io [em 9 t3, eb 10 .eql t9 (ci 0)])
  (.cond t10
  (.seq (io [em 11 t0, em 8 t11])
  .ret)
  .skip))
  (.seq (io [em 12 t0, em 13 t1, em 14 t2, em 15 t3, .o 16 (.build (.st (zc (zc (zc .nil)))) [(0, 0, 1, t13), (1, 1, 1, t14), (2, 2, 1, t15)]), .o 17 (.bsl 3 183 (.st (zc (zc (zc .nil)))) [(0, 0, 3, t16)]), .o 18 (.app 3 24 183 t12 t17), em 8 t18])
  .ret)))
theorem hc_r14_move : compF Tryz.prog 19 Tryz.f90 = some (ic_r14_move, [.t 8]) := by kernel_rfl
theorem fn_r14_done : Tryz.prog.funcs[r14_done]? = some Tryz.f91 := Tryz.func91
theorem nt_r14_done : Tryz.f91.ntmps = 20 := Tryz.ntmps91
def ic_r14_done : IC := (.seq (io [.o 2 (.box t0), .o 3 (.box t1), .o 4 (.alloc (.st (.cons (.st (zc (.cons (.st (zc (zc (zc (zc (zc (zc .nil))))))) (.cons zs (.cons (.st (.cons (.arr 12 1 fun _ => zi) .nil)) (.cons (.st (zc (zf (zc (zc (zc (zc (zc (zc (zc (zc (zc (zc (zc (zc (zc .nil)))))))))))))))) (zc (zc (zc (.cons (.st (zc (zc (zc (zc (zc .nil)))))) (zf (zc (zc .nil))))))))))))) (.cons (.st (zc (zc (zc (zc (zc .nil)))))) (.cons zs (zc .nil))))))])
  (.seq (.seq (io [ef 5 4 70 t2, el 6 false 1 t5, eb 7 .neq t6 (ci 0)])
  (.cond t7
  (.seq (.dops [el 8 true 46 t3, ec 9 132 [t8], ef 10 4 70 t2, el 11 false 1 t10, .o 12 (.build (.st (.cons (.st (zc (.cons (.st (zc (zc (zc (zc (zc (zc .nil))))))) (.cons zs (.cons (.st (.cons (.arr 12 1 fun _ => zi) .nil)) (.cons (.st (zc (zf (zc (zc (zc (zc (zc (zc (zc (zc (zc (zc (zc (zc (zc .nil)))))))))))))))) (zc (zc (zc (.cons (.st (zc (zc (zc (zc (zc .nil)))))) (zf (zc (zc .nil))))))))))))) (.cons (.st (zc (zc (zc (zc (zc .nil)))))) (.cons zs (zc .nil))))) [(0, 0, 46, t9), (3, 52, 1, t11)]), .n (.sto 53 t4 t12)])
  .ret)
  .skip))
  (.seq (io [ef 13 1 18 t2, el 14 true 46 t13, ef 15 2 64 t2, el 16 true 5 t15, ef 17 3 69 t2, el 18 false 1 t17, .o 19 (.build (.st (.cons (.st (zc (.cons (.st (zc (zc (zc (zc (zc (zc .nil))))))) (.cons zs (.cons (.st (.cons (.arr 12 1 fun _ => zi) .nil)) (.cons (.st (zc (zf (zc (zc (zc (zc (zc (zc (zc (zc (zc (zc (zc (zc (zc .nil)))))))))))))))) (zc (zc (zc (.cons (.st (zc (zc (zc (zc (zc .nil)))))) (zf (zc (zc .nil))))))))))))) (.cons (.st (zc (zc (zc (zc (zc .nil)))))) (.cons zs (zc .nil))))) [(0, 0, 46, t14), (1, 46, 5, t16), (2, 51, 1, t18)]), .n (.sto 53 t4 t19)])
  .ret)))
theorem hc_r14_done : compF Tryz.prog 20 Tryz.f91 = some (ic_r14_done, [.c 4 true 53]) := by kernel_rfl
theorem fn_r14_Roll : Tryz.prog.funcs[r14_Roll]? = some Tryz.f92 := Tryz.func92
theorem nt_r14_Roll : Tryz.f92.ntmps = 39 := Tryz.ntmps92
def ic_r14_Roll : IC := (.seq (io [.o 2 (.box t0), .o 3 (.box t1), .o 4 (.alloc (.st (.cons (.st (zc (.cons (.st (zc (zc (zc (zc (zc (zc .nil))))))) (.cons zs (.cons (.st (.cons (.arr 12 1 fun _ => zi) .nil)) (.cons (.st (zc (zf (zc (zc (zc (zc (zc (zc (zc (zc (zc (zc (zc (zc (zc .nil)))))))))))))))) (zc (zc (zc (.cons (.st (zc (zc (zc (zc (zc .nil)))))) (zf (zc (zc .nil))))))))))))) (.cons (.st (zc (zc (zc (zc (zc .nil)))))) (.cons zs (zc .nil))))))])
  (.seq (io [el 6 true 18 t2, el 7 true 46 t3, ec 8 84 [t6, t7], .o 5 (.alloc (.st (.cons (.st (zc (zc (zc (zc (zc (zc (zc (zc (zc (zc (zc (zc (zc (zc (zc (zc (zc (.cons zs .nil))))))))))))))))))) (.cons (.st (zc (.cons (.st (zc (zc (zc (zc (zc (zc .nil))))))) (.cons zs (.cons (.st (.cons (.arr 12 1 fun _ => zi) .nil)) (.cons (.st (zc (zf (zc (zc (zc (zc (zc (zc (zc (zc (zc (zc (zc (zc (zc .nil)))))))))))))))) (zc (zc (zc (.cons (.st (zc (zc (zc (zc (zc .nil)))))) (zf (zc (zc .nil))))))))))))) (.cons (.st (zc (zc (zc (zc (zc .nil)))))) (.cons zs (zc .nil))))))), .n (.sto 71 t5 t8)])
  (.seq (io [el 9 true 71 t5, ef 10 5 35 t3, el 11 false 1 t10, eb 12 .geq t11 (ci 3652059), ec 13 85 [t9, t12, (ci 141)], .n (.sto 71 t5 t13)])
  (.seq (io [el 14 true 71 t5, ec 15 139 [t14, (ci 1)], .n (.sto 71 t5 t15)])
  (.seq (.seq (io [ef 16 4 70 t5, el 17 false 1 t16, eb 18 .neq t17 (ci 0), em 19 t18, .og 20 19 false (.ld true 46 t3), .og 21 19 false (.call 140 [t20]), .o 22 (.pick t19 ct t21)])
  (.cond t22
  (.seq (io [el 23 true 71 t5, el 24 true 46 t3, ec 25 91 [t23, t24], .n (.sto 53 t4 t25)])
  .ret)
  .skip))
  (.seq (.dops [el 26 true 71 t5, ef 27 1 18 t5, ef 28 5 35 t27, el 29 false 1 t28, ef 30 1 18 t5, el 31 true 46 t30, ec 32 43 [t31], .o 33 (.build (.st (zc (zc (zc (zc .nil))))) [(0, 0, 1, (ci 1)), (1, 1, 1, t29), (2, 2, 1, t32)]), ec 34 141 [t26, t33], .n (.sto 71 t5 t34)])
  (.seq (.dops [el 35 true 71 t5, ec 36 142 [t35], el 37 true 46 t3, ec 38 91 [t36, t37], .n (.sto 53 t4 t38)])
  .ret)))))))
theorem hc_r14_Roll : compF Tryz.prog 39 Tryz.f92 = some (ic_r14_Roll, [.c 4 true 53]) := by kernel_rfl
theorem fn_r14_Pay : Tryz.prog.funcs[r14_Pay]? = some Tryz.f93 := Tryz.func93
theorem nt_r14_Pay : Tryz.f93.ntmps = 72 := Tryz.ntmps93
def ic_r14_Pay : IC := (.seq (io [.o 3 (.box t0), .o 4 (.box t1), .o 6 (.alloc (.st (.cons (.st (zc (.cons (.st (zc (zc (zc (zc (zc (zc .nil))))))) (.cons zs (.cons (.st (.cons (.arr 12 1 fun _ => zi) .nil)) (.cons (.st (zc (zf (zc (zc (zc (zc (zc (zc (zc (zc (zc (zc (zc (zc (zc .nil)))))))))))))))) (zc (zc (zc (.cons (.st (zc (zc (zc (zc (zc .nil)))))) (zf (zc (zc .nil))))))))))))) (.cons (.st (zc (zc (zc (zc (zc .nil)))))) (.cons zs (zc .nil))))))])
  (.seq (io [el 10 true 18 t3, el 11 true 46 t4, ec 12 84 [t10, t11], .o 7 (.alloc (.st (.cons (.st (zc (zc (zc (zc (zc (zc (zc (zc (zc (zc (zc (zc (zc (zc (zc (zc (zc (.cons zs .nil))))))))))))))))))) (.cons (.st (zc (.cons (.st (zc (zc (zc (zc (zc (zc .nil))))))) (.cons zs (.cons (.st (.cons (.arr 12 1 fun _ => zi) .nil)) (.cons (.st (zc (zf (zc (zc (zc (zc (zc (zc (zc (zc (zc (zc (zc (zc (zc .nil)))))))))))))))) (zc (zc (zc (.cons (.st (zc (zc (zc (zc (zc .nil)))))) (zf (zc (zc .nil))))))))))))) (.cons (.st (zc (zc (zc (zc (zc .nil)))))) (.cons zs (zc .nil))))))), .n (.sto 71 t7 t12)])
  (.seq (io [el 13 true 71 t7, em 14 t2, eb 15 .lss t14 (ci 1), ec 16 85 [t13, t15, (ci 4)], .n (.sto 71 t7 t16)])
  (.seq (io [el 18 true 18 t3, el 19 true 46 t4, em 20 t2, ec 21 143 [t18, t19, t20], em 17 t21, ex 22 0 t17, ex 23 1 t17, .o 8 (.alloc (.st (zc (zc (zc (zc (zc .nil))))))), .n (.sto 5 t8 t22), em 9 t23])
  (.seq (io [el 24 true 71 t7, em 25 t9, eb 26 .neq t25 (ci 0), em 27 t9, ec 28 85 [t24, t26, t27], .n (.sto 71 t7 t28)])
  (.seq (.dops [el 29 true 71 t7, el 30 true 5 t8, ec 31 144 [t30], ec 32 89 [t29, t31], .n (.sto 71 t7 t32)])
  (.seq (io [el 33 true 5 t8, ef 34 2 64 t7, .n (.sto 5 t34 t33)])
  (.seq (.seq (io [ef 35 4 70 t7, el 36 false 1 t35, eb 37 .neq t36 (ci 0), em 38 t37, .og 39 38 false (.ld true 46 t4), .og 40 38 false (.call 140 [t39]), .o 41 (.pick t38 ct t40)])
  (.cond t41
  (.seq (io [el 42 true 71 t7, el 43 true 46 t4, ec 44 91 [t42, t43], .n (.sto 53 t6 t44)])
  .ret)
  .skip))
  (.seq (io [ef 45 1 18 t7, ef 46 7 37 t45, el 47 false 1 t46, ef 48 1 1 t8, el 49 false 1 t48, eb 50 .add t47 t49, ef 51 2 2 t8, el 52 false 1 t51, eb 53 .add t50 t52, ef 54 1 18 t7, ef 55 7 37 t54, .n (.sto 1 t55 t53)])
  (.seq (io [el 56 true 5 t8, ef 57 1 18 t7, ef 58 8 38 t57, .n (.sto 5 t58 t56)])
  (.seq (io [ef 59 1 18 t7, ef 60 9 43 t59, .n (.sto 1 t60 ct)])
  (.seq (.dops [el 61 true 71 t7, em 62 t2, ef 63 1 18 t7, el 64 true 46 t63, ec 65 43 [t64], .o 66 (.build (.st (zc (zc (zc (zc .nil))))) [(0, 0, 1, (ci 2)), (3, 3, 1, t62), (2, 2, 1, t65)]), ec 67 141 [t61, t66], .n (.sto 71 t7 t67)])
  (.seq (.dops [el 68 true 71 t7, ec 69 145 [t68], el 70 true 46 t4, ec 71 91 [t69, t70], .n (.sto 53 t6 t71)])
  .ret)))))))))))))
theorem hc_r14_Pay : compF Tryz.prog 72 Tryz.f93 = some (ic_r14_Pay, [.c 6 true 53]) := by kernel_rfl
theorem fn_r14_Return : Tryz.prog.funcs[r14_Return]? = some Tryz.f94 := Tryz.func94
theorem nt_r14_Return : Tryz.f94.ntmps = 63 := Tryz.ntmps94
def ic_r14_Return : IC := (.seq (io [.o 2 (.box t0), .o 3 (.box t1), .o 4 (.alloc (.st (.cons (.st (zc (.cons (.st (zc (zc (zc (zc (zc (zc .nil))))))) (.cons zs (.cons (.st (.cons (.arr 12 1 fun _ => zi) .nil)) (.cons (.st (zc (zf (zc (zc (zc (zc (zc (zc (zc (zc (zc (zc (zc (zc (zc .nil)))))))))))))))) (zc (zc (zc (.cons (.st (zc (zc (zc (zc (zc .nil)))))) (zf (zc (zc .nil))))))))))))) (.cons (.st (zc (zc (zc (zc (zc .nil)))))) (.cons zs (zc .nil))))))])
  (.seq (io [el 8 true 18 t2, el 9 true 46 t3, ec 10 84 [t8, t9], .o 5 (.alloc (.st (.cons (.st (zc (zc (zc (zc (zc (zc (zc (zc (zc (zc (zc (zc (zc (zc (zc (zc (zc (.cons zs .nil))))))))))))))))))) (.cons (.st (zc (.cons (.st (zc (zc (zc (zc (zc (zc .nil))))))) (.cons zs (.cons (.st (.cons (.arr 12 1 fun _ => zi) .nil)) (.cons (.st (zc (zf (zc (zc (zc (zc (zc (zc (zc (zc (zc (zc (zc (zc (zc .nil)))))))))))))))) (zc (zc (zc (.cons (.st (zc (zc (zc (zc (zc .nil)))))) (zf (zc (zc .nil))))))))))))) (.cons (.st (zc (zc (zc (zc (zc .nil)))))) (.cons zs (zc .nil))))))), .n (.sto 71 t5 t10)])
  (.seq (.dops [el 11 true 71 t5, el 12 true 46 t3, ec 13 140 [t12], ec 14 85 [t11, t13, (ci 130)], .n (.sto 71 t5 t14)])
  (.seq (io [el 15 true 71 t5, ef 16 9 43 t3, el 17 false 1 t16, .o 18 (.un .not t17), ec 19 85 [t15, t18, (ci 142)], .n (.sto 71 t5 t19)])
  (.seq (io [ef 20 8 38 t3, el 21 true 5 t20, .o 6 (.alloc (.st (zc (zc (zc (zc (zc .nil))))))), .n (.sto 5 t6 t21)])
  (.seq (io [ef 22 0 0 t6, el 23 false 1 t22, ef 24 1 1 t6, el 25 false 1 t24, eb 26 .add t23 t25, ef 27 2 2 t6, el 28 false 1 t27, eb 29 .add t26 t28, ef 30 3 3 t6, el 31 false 1 t30, eb 32 .add t29 t31, ef 33 4 4 t6, el 34 false 1 t33, eb 35 .add t32 t34, em 7 t35])
  (.seq (.dops [el 36 true 71 t5, el 37 true 5 t6, ec 38 146 [t37], ec 39 89 [t36, t38], .n (.sto 71 t5 t39)])
  (.seq (io [ef 40 1 18 t5, ef 41 7 37 t40, el 42 false 1 t41, ef 43 1 1 t6, el 44 false 1 t43, eb 45 .sub t42 t44, ef 46 2 2 t6, el 47 false 1 t46, eb 48 .sub t45 t47, ef 49 1 18 t5, ef 50 7 37 t49, .n (.sto 1 t50 t48)])
  (.seq (io [el 51 true 5 t6, ef 52 2 64 t5, .n (.sto 5 t52 t51)])
  (.seq (io [el 53 true 71 t5, em 54 t7, .o 55 (.build (.st (zc (zc (zc (zc .nil))))) [(0, 0, 1, (ci 3)), (3, 3, 1, t54)]), ec 56 141 [t53, t55], .n (.sto 71 t5 t56)])
  (.seq (.dops [el 57 true 71 t5, em 58 t7, ec 59 148 [t57, (ci 9), t58], ec 60 147 [t59], el 61 true 46 t3, ec 62 91 [t60, t61], .n (.sto 53 t4 t62)])
  .ret)))))))))))
theorem hc_r14_Return : compF Tryz.prog 63 Tryz.f94 = some (ic_r14_Return, [.c 4 true 53]) := by kernel_rfl
theorem fn_r14_Refund : Tryz.prog.funcs[r14_Refund]? = some Tryz.f95 := Tryz.func95
theorem nt_r14_Refund : Tryz.f95.ntmps = 27 := Tryz.ntmps95
def ic_r14_Refund : IC := (.seq (io [.o 3 (.box t0), .o 4 (.box t1), .o 6 (.alloc (.st (.cons (.st (zc (.cons (.st (zc (zc (zc (zc (zc (zc .nil))))))) (.cons zs (.cons (.st (.cons (.arr 12 1 fun _ => zi) .nil)) (.cons (.st (zc (zf (zc (zc (zc (zc (zc (zc (zc (zc (zc (zc (zc (zc (zc .nil)))))))))))))))) (zc (zc (zc (.cons (.st (zc (zc (zc (zc (zc .nil)))))) (zf (zc (zc .nil))))))))))))) (.cons (.st (zc (zc (zc (zc (zc .nil)))))) (.cons zs (zc .nil))))))])
  (.seq (io [el 8 true 18 t3, el 9 true 46 t4, ec 10 84 [t8, t9], .o 7 (.alloc (.st (.cons (.st (zc (zc (zc (zc (zc (zc (zc (zc (zc (zc (zc (zc (zc (zc (zc (zc (zc (.cons zs .nil))))))))))))))))))) (.cons (.st (zc (.cons (.st (zc (zc (zc (zc (zc (zc .nil))))))) (.cons zs (.cons (.st (.cons (.arr 12 1 fun _ => zi) .nil)) (.cons (.st (zc (zf (zc (zc (zc (zc (zc (zc (zc (zc (zc (zc (zc (zc (zc .nil)))))))))))))))) (zc (zc (zc (.cons (.st (zc (zc (zc (zc (zc .nil)))))) (zf (zc (zc .nil))))))))))))) (.cons (.st (zc (zc (zc (zc (zc .nil)))))) (.cons zs (zc .nil))))))), .n (.sto 71 t7 t10)])
  (.seq (io [el 11 true 71 t7, em 12 t2, eb 13 .lss t12 (ci 1), ec 14 85 [t11, t13, (ci 4)], .n (.sto 71 t7 t14)])
  (.seq (.dops [el 15 true 71 t7, em 16 t2, el 17 true 46 t4, ec 18 46 [t17, (ci 4)], eb 19 .gtr t16 t18, ec 20 85 [t15, t19, (ci 143)], .n (.sto 71 t7 t20)])
  (.seq (.dops [el 21 true 71 t7, em 22 t2, ec 23 90 [(.c (.slice none 0 0)), (ci 4), (ci 0), t22], ec 24 89 [t21, t23], el 25 true 46 t4, ec 26 91 [t24, t25], .n (.sto 53 t6 t26)])
  .ret)))))
theorem hc_r14_Refund : compF Tryz.prog 27 Tryz.f95 = some (ic_r14_Refund, [.c 6 true 53]) := by kernel_rfl
theorem fn_r14_Waive : Tryz.prog.funcs[r14_Waive]? = some Tryz.f96 := Tryz.func96
theorem nt_r14_Waive : Tryz.f96.ntmps = 33 := Tryz.ntmps96
def ic_r14_Waive : IC := (.seq (io [.o 3 (.box t0), .o 4 (.box t1), .o 6 (.alloc (.st (.cons (.st (zc (.cons (.st (zc (zc (zc (zc (zc (zc .nil))))))) (.cons zs (.cons (.st (.cons (.arr 12 1 fun _ => zi) .nil)) (.cons (.st (zc (zf (zc (zc (zc (zc (zc (zc (zc (zc (zc (zc (zc (zc (zc .nil)))))))))))))))) (zc (zc (zc (.cons (.st (zc (zc (zc (zc (zc .nil)))))) (zf (zc (zc .nil))))))))))))) (.cons (.st (zc (zc (zc (zc (zc .nil)))))) (.cons zs (zc .nil))))))])
  (.seq (io [el 8 true 18 t3, el 9 true 46 t4, ec 10 84 [t8, t9], .o 7 (.alloc (.st (.cons (.st (zc (zc (zc (zc (zc (zc (zc (zc (zc (zc (zc (zc (zc (zc (zc (zc (zc (.cons zs .nil))))))))))))))))))) (.cons (.st (zc (.cons (.st (zc (zc (zc (zc (zc (zc .nil))))))) (.cons zs (.cons (.st (.cons (.arr 12 1 fun _ => zi) .nil)) (.cons (.st (zc (zf (zc (zc (zc (zc (zc (zc (zc (zc (zc (zc (zc (zc (zc .nil)))))))))))))))) (zc (zc (zc (.cons (.st (zc (zc (zc (zc (zc .nil)))))) (zf (zc (zc .nil))))))))))))) (.cons (.st (zc (zc (zc (zc (zc .nil)))))) (.cons zs (zc .nil))))))), .n (.sto 71 t7 t10)])
  (.seq (io [el 11 true 71 t7, em 12 t2, eb 13 .lss t12 (ci 1), ec 14 85 [t11, t13, (ci 4)], .n (.sto 71 t7 t14)])
  (.seq (.dops [el 15 true 71 t7, el 16 true 46 t4, ec 17 140 [t16], ec 18 85 [t15, t17, (ci 130)], .n (.sto 71 t7 t18)])
  (.seq (.dops [el 19 true 71 t7, em 20 t2, el 21 true 46 t4, ec 22 46 [t21, (ci 3)], eb 23 .gtr t20 t22, ec 24 85 [t19, t23, (ci 143)], .n (.sto 71 t7 t24)])
  (.seq (.dops [el 25 true 71 t7, em 26 t2, ec 27 90 [(.c (.slice none 0 0)), (ci 11), (ci 3), t26], ec 28 89 [t25, t27], .n (.sto 71 t7 t28)])
  (.seq (.dops [el 29 true 71 t7, ec 30 145 [t29], el 31 true 46 t4, ec 32 91 [t30, t31], .n (.sto 53 t6 t32)])
  .ret)))))))
theorem hc_r14_Waive : compF Tryz.prog 33 Tryz.f96 = some (ic_r14_Waive, [.c 6 true 53]) := by kernel_rfl
theorem fn_r14_Promise : Tryz.prog.funcs[r14_Promise]? = some Tryz.f97 := Tryz.func97
theorem nt_r14_Promise : Tryz.f97.ntmps = 22 := Tryz.ntmps97
def ic_r14_Promise : IC := (.seq (io [.o 4 (.box t0), .o 5 (.box t1), .o 8 (.alloc (.st (.cons (.st (zc (.cons (.st (zc (zc (zc (zc (zc (zc .nil))))))) (.cons zs (.cons (.st (.cons (.arr 12 1 fun _ => zi) .nil)) (.cons (.st (zc (zf (zc (zc (zc (zc (zc (zc (zc (zc (zc (zc (zc (zc (zc .nil)))))))))))))))) (zc (zc (zc (.cons (.st (zc (zc (zc (zc (zc .nil)))))) (zf (zc (zc .nil))))))))))))) (.cons (.st (zc (zc (zc (zc (zc .nil)))))) (.cons zs (zc .nil))))))])
  (.seq (.dops [el 10 true 18 t4, el 11 true 46 t5, ec 12 84 [t10, t11], ef 13 5 35 t5, el 14 false 1 t13, em 15 t3, em 16 t2, .o 17 (.build (.st (zc (zc (zc (zc .nil))))) [(0, 0, 1, (ci 4)), (1, 1, 1, t14), (2, 2, 1, t15), (3, 3, 1, t16)]), ec 18 141 [t12, t17], .o 9 (.alloc (.st (.cons (.st (zc (zc (zc (zc (zc (zc (zc (zc (zc (zc (zc (zc (zc (zc (zc (zc (zc (.cons zs .nil))))))))))))))))))) (.cons (.st (zc (.cons (.st (zc (zc (zc (zc (zc (zc .nil))))))) (.cons zs (.cons (.st (.cons (.arr 12 1 fun _ => zi) .nil)) (.cons (.st (zc (zf (zc (zc (zc (zc (zc (zc (zc (zc (zc (zc (zc (zc (zc .nil)))))))))))))))) (zc (zc (zc (.cons (.st (zc (zc (zc (zc (zc .nil)))))) (zf (zc (zc .nil))))))))))))) (.cons (.st (zc (zc (zc (zc (zc .nil)))))) (.cons zs (zc .nil))))))), .n (.sto 71 t9 t18)])
  (.seq (io [el 19 true 71 t9, el 20 true 46 t5, ec 21 91 [t19, t20], .n (.sto 53 t8 t21)])
  .ret)))
theorem hc_r14_Promise : compF Tryz.prog 22 Tryz.f97 = some (ic_r14_Promise, [.c 8 true 53]) := by kernel_rfl
theorem fn_r14_Restructure : Tryz.prog.funcs[r14_Restructure]? = some Tryz.f98 := Tryz.func98
theorem nt_r14_Restructure : Tryz.f98.ntmps = 104 := Tryz.ntmps98
def ic_r14_Restructure : IC := (.seq (io [.o 4 (.box t0), .o 5 (.box t1), .o 8 (.alloc (.st (.cons (.st (zc (.cons (.st (zc (zc (zc (zc (zc (zc .nil))))))) (.cons zs (.cons (.st (.cons (.arr 12 1 fun _ => zi) .nil)) (.cons (.st (zc (zf (zc (zc (zc (zc (zc (zc (zc (zc (zc (zc (zc (zc (zc .nil)))))))))))))))) (zc (zc (zc (.cons (.st (zc (zc (zc (zc (zc .nil)))))) (zf (zc (zc .nil))))))))))))) (.cons (.st (zc (zc (zc (zc (zc .nil)))))) (.cons zs (zc .nil))))))])
  (.seq (io [el 15 true 18 t4, el 16 true 46 t5, ec 17 84 [t15, t16], .o 9 (.alloc (.st (.cons (.st (zc (zc (zc (zc (zc (zc (zc (zc (zc (zc (zc (zc (zc (zc (zc (zc (zc (.cons zs .nil))))))))))))))))))) (.cons (.st (zc (.cons (.st (zc (zc (zc (zc (zc (zc .nil))))))) (.cons zs (.cons (.st (.cons (.arr 12 1 fun _ => zi) .nil)) (.cons (.st (zc (zf (zc (zc (zc (zc (zc (zc (zc (zc (zc (zc (zc (zc (zc .nil)))))))))))))))) (zc (zc (zc (.cons (.st (zc (zc (zc (zc (zc .nil)))))) (zf (zc (zc .nil))))))))))))) (.cons (.st (zc (zc (zc (zc (zc .nil)))))) (.cons zs (zc .nil))))))), .n (.sto 71 t9 t17)])
  (.seq (io [el 18 true 71 t9, em 19 t2, eb 20 .lss t19 (ci 1), em 21 t20, .og 22 21 false (.mv t2), .og 23 21 false (.bin .gtr t22 (ci 120)), .o 24 (.pick t21 ct t23), em 25 t24, .og 26 25 false (.mv t3), .og 27 25 false (.bin .lss t26 (ci 0)), .o 28 (.pick t25 ct t27), em 29 t28, .og 30 29 false (.mv t3), .og 31 29 false (.bin .gtr t30 (ci 100000)), .o 32 (.pick t29 ct t31), ec 33 85 [t18, t32, (ci 140)], .n (.sto 71 t9 t33)])
  (.seq (io [el 34 true 71 t9, .o 35 (.build (.st (zc (zc (zc (zc .nil))))) [(0, 0, 1, (ci 5))]), ec 36 141 [t34, t35], .n (.sto 71 t9 t36)])
  (.seq (io [el 37 true 46 t5, ec 38 149 [t37], .o 10 (.alloc (.st (zc (zc (zc .nil))))), .n (.sto 3 t10 t38)])
  (.seq (.dops [el 39 true 71 t9, el 40 true 3 t10, ec 41 150 [t40], eb 42 .gtr t41 (ci 10000000000000), ec 43 85 [t39, t42, (ci 3)], .n (.sto 71 t9 t43)])
  (.seq (.seq (io [ef 44 4 70 t9, el 45 false 1 t44, eb 46 .neq t45 (ci 0)])
  (.cond t46
  (.seq (io [el 47 true 71 t9, el 48 true 46 t5, ec 49 91 [t47, t48], .n (.sto 53 t8 t49)])
  .ret)
  .skip))
  (.seq (.dops [ef 50 1 1 t5, ef 51 0 0 t50, el 52 false 1 t51, el 53 true 3 t10, ec 54 150 [t53], em 55 t3, em 56 t2, ef 57 5 35 t5, el 58 false 1 t57, ef 59 1 1 t5, ef 60 5 5 t59, el 61 false 1 t60, .o 62 (.build (.st (zc (zc (zc (zc (zc (zc .nil))))))) [(0, 0, 1, t52), (1, 1, 1, t54), (2, 2, 1, t55), (3, 3, 1, t56), (4, 4, 1, t58), (5, 5, 1, t61)]), .o 11 (.alloc (.st (zc (zc (zc (zc (zc (zc .nil)))))))), .n (.sto 6 t11 t62)])
  (.seq (io [el 64 true 6 t11, ef 65 17 17 t4, el 66 false 1 t65, ec 67 87 [t64, t66], em 63 t67, ex 68 0 t63, ex 69 1 t63, em 12 t68, em 13 t69])
  (.seq (io [el 70 true 71 t9, em 71 t13, .o 72 (.un .not t71), ec 73 85 [t70, t72, (ci 141)], .n (.sto 71 t9 t73)])
  (.seq (io [em 14 (.c (.slice none 0 0))])
  (.seq (io [em 74 t14, ef 75 1 1 t10, el 76 false 1 t75, ec 77 90 [t74, (ci 1), (ci 2), t76], em 14 t77])
  (.seq (io [em 78 t14, ef 79 0 0 t10, el 80 false 1 t79, ec 81 90 [t78, (ci 1), (ci 3), t80], em 14 t81])
  (.seq (io [em 82 t14, el 83 true 46 t5, ec 84 46 [t83, (ci 5)], ec 85 90 [t82, (ci 5), (ci 7), t84], em 14 t85])
  (.seq (io [el 86 true 71 t9, em 87 t14, ec 88 89 [t86, t87], .n (.sto 71 t9 t88)])
  (.seq (io [el 89 true 6 t11, ef 90 1 18 t9, ef 91 1 1 t90, .n (.sto 6 t91 t89)])
  (.seq (io [em 92 t12, ef 93 1 18 t9, ef 94 2 7 t93, .n (.sto 1 t94 t92)])
  (.seq (io [ef 95 1 18 t9, ef 96 7 37 t95, .n (.sto 1 t96 (ci 0))])
  (.seq (.dops [el 97 true 71 t9, ec 98 147 [t97], ef 99 1 1 t11, el 100 false 1 t99, ec 101 148 [t98, (ci 7), t100], el 102 true 46 t5, ec 103 91 [t101, t102], .n (.sto 53 t8 t103)])
  .ret)))))))))))))))))))
theorem hc_r14_Restructure : compF Tryz.prog 104 Tryz.f98 = some (ic_r14_Restructure, [.c 8 true 53]) := by kernel_rfl
theorem fn_arrears_policy_between_int_ : Tryz.prog.funcs[arrears_policy_between_int_]? = some Tryz.f99 := Tryz.func99
theorem nt_arrears_policy_between_int_ : Tryz.f99.ntmps = 9 := Tryz.ntmps99
def ic_arrears_policy_between_int_ : IC := (.seq (io [.o 3 (.box t0), .o 4 (.box t1), .o 5 (.box t2), .o 6 (.alloc (.st (.cons (.val (.nilFunc)) .nil)))])
  (.seq (io [.o 7 (.mkf (.func 151) [] [t3, t4, t5]), .o 8 (.build (.st (.cons (.val (.nilFunc)) .nil)) [(0, 0, 1, t7)]), .n (.sto 1 t6 t8)])
  .ret))
theorem hc_arrears_policy_between_int_ : compF Tryz.prog 9 Tryz.f99 = some (ic_arrears_policy_between_int_, [.c 6 true 1]) := by kernel_rfl
theorem fn_policy_rules_c1 : Tryz.prog.funcs[policy_rules_c1]? = some Tryz.f100 := Tryz.func100
theorem nt_policy_rules_c1 : Tryz.f100.ntmps = 5 := Tryz.ntmps100
def ic_policy_rules_c1 : IC := (.seq (io [.o 1 (.box t0), em 2 (ci 0)])
  (.seq (io [ef 3 0 0 t1, el 4 false 1 t3, em 2 t4])
  .ret))
theorem hc_policy_rules_c1 : compF Tryz.prog 5 Tryz.f100 = some (ic_policy_rules_c1, [.t 2]) := by kernel_rfl
theorem fn_arrears_policy_from_int_ : Tryz.prog.funcs[arrears_policy_from_int_]? = some Tryz.f101 := Tryz.func101
theorem nt_arrears_policy_from_int_ : Tryz.f101.ntmps = 4 := Tryz.ntmps101
def ic_arrears_policy_from_int_ : IC := (.seq (io [.o 1 (.box t0), em 2 (.c (.nilFunc))])
  (.seq (io [.o 3 (.mkf (.func 152) [] [t1]), em 2 t3])
  .ret))
theorem hc_arrears_policy_from_int_ : compF Tryz.prog 4 Tryz.f101 = some (ic_arrears_policy_from_int_, [.t 2]) := by kernel_rfl
theorem fn_policy_rules_c2 : Tryz.prog.funcs[policy_rules_c2]? = some Tryz.f102 := Tryz.func102
theorem nt_policy_rules_c2 : Tryz.f102.ntmps = 5 := Tryz.ntmps102
def ic_policy_rules_c2 : IC := (.seq (io [.o 1 (.box t0), em 2 (ci 0)])
  (.seq (io [ef 3 1 1 t1, el 4 false 1 t3, em 2 t4])
  .ret))
theorem hc_policy_rules_c2 : compF Tryz.prog 5 Tryz.f102 = some (ic_policy_rules_c2, [.t 2]) := by kernel_rfl
theorem fn_policy_rules_c3 : Tryz.prog.funcs[policy_rules_c3]? = some Tryz.f103 := Tryz.func103
theorem nt_policy_rules_c3 : Tryz.f103.ntmps = 5 := Tryz.ntmps103
def ic_policy_rules_c3 : IC := (.seq (io [.o 1 (.box t0), em 2 (ci 0)])
  (.seq (io [ef 3 2 2 t1, el 4 false 1 t3, em 2 t4])
  .ret))
theorem hc_policy_rules_c3 : compF Tryz.prog 5 Tryz.f103 = some (ic_policy_rules_c3, [.t 2]) := by kernel_rfl
theorem fn_policy_rules_c4 : Tryz.prog.funcs[policy_rules_c4]? = some Tryz.f104 := Tryz.func104
theorem nt_policy_rules_c4 : Tryz.f104.ntmps = 6 := Tryz.ntmps104
def ic_policy_rules_c4 : IC := (.seq (io [.o 1 (.box t0), em 2 (ci 0)])
  (.seq (io [ef 3 1 1 t1, el 4 false 1 t3, eb 5 .add t4 (ci 1), em 2 t5])
  .ret))
theorem hc_policy_rules_c4 : compF Tryz.prog 6 Tryz.f104 = some (ic_policy_rules_c4, [.t 2]) := by kernel_rfl
theorem fn_policy_rules_c5 : Tryz.prog.funcs[policy_rules_c5]? = some Tryz.f105 := Tryz.func105
theorem nt_policy_rules_c5 : Tryz.f105.ntmps = 5 := Tryz.ntmps105
def ic_policy_rules_c5 : IC := (.seq (io [.o 1 (.box t0), em 2 (ci 0)])
  (.seq (io [ef 3 3 3 t1, el 4 false 1 t3, em 2 t4])
  .ret))
theorem hc_policy_rules_c5 : compF Tryz.prog 5 Tryz.f105 = some (ic_policy_rules_c5, [.t 2]) := by kernel_rfl
theorem fn_arrears_policy_between_int64_ : Tryz.prog.funcs[arrears_policy_between_int64_]? = some Tryz.f106 := Tryz.func106
theorem nt_arrears_policy_between_int64_ : Tryz.f106.ntmps = 9 := Tryz.ntmps106
def ic_arrears_policy_between_int64_ : IC := (.seq (io [.o 3 (.box t0), .o 4 (.box t1), .o 5 (.box t2), .o 6 (.alloc (.st (.cons (.val (.nilFunc)) .nil)))])
  (.seq (io [.o 7 (.mkf (.func 153) [] [t3, t4, t5]), .o 8 (.build (.st (.cons (.val (.nilFunc)) .nil)) [(0, 0, 1, t7)]), .n (.sto 1 t6 t8)])
  .ret))
theorem hc_arrears_policy_between_int64_ : compF Tryz.prog 9 Tryz.f106 = some (ic_arrears_policy_between_int64_, [.c 6 true 1]) := by kernel_rfl
theorem fn_policy_rules_c6 : Tryz.prog.funcs[policy_rules_c6]? = some Tryz.f107 := Tryz.func107
theorem nt_policy_rules_c6 : Tryz.f107.ntmps = 5 := Tryz.ntmps107
def ic_policy_rules_c6 : IC := (.seq (io [.o 1 (.box t0), em 2 (ci 0)])
  (.seq (io [ef 3 4 4 t1, el 4 false 1 t3, em 2 t4])
  .ret))
theorem hc_policy_rules_c6 : compF Tryz.prog 5 Tryz.f107 = some (ic_policy_rules_c6, [.t 2]) := by kernel_rfl
theorem fn_arrears_policy_from_int64_ : Tryz.prog.funcs[arrears_policy_from_int64_]? = some Tryz.f108 := Tryz.func108
theorem nt_arrears_policy_from_int64_ : Tryz.f108.ntmps = 4 := Tryz.ntmps108
def ic_arrears_policy_from_int64_ : IC := (.seq (io [.o 1 (.box t0), em 2 (.c (.nilFunc))])
  (.seq (io [.o 3 (.mkf (.func 154) [] [t1]), em 2 t3])
  .ret))
theorem hc_arrears_policy_from_int64_ : compF Tryz.prog 4 Tryz.f108 = some (ic_arrears_policy_from_int64_, [.t 2]) := by kernel_rfl
theorem fn_policy_rules_c7 : Tryz.prog.funcs[policy_rules_c7]? = some Tryz.f109 := Tryz.func109
theorem nt_policy_rules_c7 : Tryz.f109.ntmps = 5 := Tryz.ntmps109
def ic_policy_rules_c7 : IC := (.seq (io [.o 1 (.box t0), em 2 (ci 0)])
  (.seq (io [ef 3 5 5 t1, el 4 false 1 t3, em 2 t4])
  .ret))
theorem hc_policy_rules_c7 : compF Tryz.prog 5 Tryz.f109 = some (ic_policy_rules_c7, [.t 2]) := by kernel_rfl
theorem fn_policy_rules_c8 : Tryz.prog.funcs[policy_rules_c8]? = some Tryz.f110 := Tryz.func110
theorem nt_policy_rules_c8 : Tryz.f110.ntmps = 5 := Tryz.ntmps110
def ic_policy_rules_c8 : IC := (.seq (io [.o 1 (.box t0), em 2 (ci 0)])
  (.seq (io [ef 3 6 6 t1, el 4 false 1 t3, em 2 t4])
  .ret))
theorem hc_policy_rules_c8 : compF Tryz.prog 5 Tryz.f110 = some (ic_policy_rules_c8, [.t 2]) := by kernel_rfl
theorem fn_policy_rules_c9 : Tryz.prog.funcs[policy_rules_c9]? = some Tryz.f111 := Tryz.func111
theorem nt_policy_rules_c9 : Tryz.f111.ntmps = 5 := Tryz.ntmps111
def ic_policy_rules_c9 : IC := (.seq (io [.o 1 (.box t0), em 2 (ci 0)])
  (.seq (io [ef 3 5 5 t1, el 4 false 1 t3, em 2 t4])
  .ret))
theorem hc_policy_rules_c9 : compF Tryz.prog 5 Tryz.f111 = some (ic_policy_rules_c9, [.t 2]) := by kernel_rfl
theorem fn_policy_rules_c10 : Tryz.prog.funcs[policy_rules_c10]? = some Tryz.f112 := Tryz.func112
theorem nt_policy_rules_c10 : Tryz.f112.ntmps = 5 := Tryz.ntmps112
def ic_policy_rules_c10 : IC := (.seq (io [.o 1 (.box t0), em 2 (ci 0)])
  (.seq (io [ef 3 7 7 t1, el 4 false 1 t3, em 2 t4])
  .ret))
theorem hc_policy_rules_c10 : compF Tryz.prog 5 Tryz.f112 = some (ic_policy_rules_c10, [.t 2]) := by kernel_rfl
theorem fn_policy_rules_c11 : Tryz.prog.funcs[policy_rules_c11]? = some Tryz.f113 := Tryz.func113
theorem nt_policy_rules_c11 : Tryz.f113.ntmps = 5 := Tryz.ntmps113
def ic_policy_rules_c11 : IC := (.seq (io [.o 1 (.box t0), em 2 (ci 0)])
  (.seq (io [ef 3 8 8 t1, el 4 false 1 t3, em 2 t4])
  .ret))
theorem hc_policy_rules_c11 : compF Tryz.prog 5 Tryz.f113 = some (ic_policy_rules_c11, [.t 2]) := by kernel_rfl
theorem fn_policy_rules_c12 : Tryz.prog.funcs[policy_rules_c12]? = some Tryz.f114 := Tryz.func114
theorem nt_policy_rules_c12 : Tryz.f114.ntmps = 5 := Tryz.ntmps114
def ic_policy_rules_c12 : IC := (.seq (io [.o 1 (.box t0), em 2 (ci 0)])
  (.seq (io [ef 3 9 9 t1, el 4 false 1 t3, em 2 t4])
  .ret))
theorem hc_policy_rules_c12 : compF Tryz.prog 5 Tryz.f114 = some (ic_policy_rules_c12, [.t 2]) := by kernel_rfl
theorem fn_policy_rules_c13 : Tryz.prog.funcs[policy_rules_c13]? = some Tryz.f115 := Tryz.func115
theorem nt_policy_rules_c13 : Tryz.f115.ntmps = 5 := Tryz.ntmps115
def ic_policy_rules_c13 : IC := (.seq (io [.o 1 (.box t0), em 2 (ci 0)])
  (.seq (io [ef 3 10 10 t1, el 4 false 1 t3, em 2 t4])
  .ret))
theorem hc_policy_rules_c13 : compF Tryz.prog 5 Tryz.f115 = some (ic_policy_rules_c13, [.t 2]) := by kernel_rfl
theorem fn_policy_rules_c14 : Tryz.prog.funcs[policy_rules_c14]? = some Tryz.f116 := Tryz.func116
theorem nt_policy_rules_c14 : Tryz.f116.ntmps = 5 := Tryz.ntmps116
def ic_policy_rules_c14 : IC := (.seq (io [.o 1 (.box t0), em 2 (ci 0)])
  (.seq (io [ef 3 11 11 t1, el 4 false 1 t3, em 2 t4])
  .ret))
theorem hc_policy_rules_c14 : compF Tryz.prog 5 Tryz.f116 = some (ic_policy_rules_c14, [.t 2]) := by kernel_rfl
theorem fn_policy_rules_c15 : Tryz.prog.funcs[policy_rules_c15]? = some Tryz.f117 := Tryz.func117
theorem nt_policy_rules_c15 : Tryz.f117.ntmps = 5 := Tryz.ntmps117
def ic_policy_rules_c15 : IC := (.seq (io [.o 1 (.box t0), em 2 (ci 0)])
  (.seq (io [ef 3 12 12 t1, el 4 false 1 t3, em 2 t4])
  .ret))
theorem hc_policy_rules_c15 : compF Tryz.prog 5 Tryz.f117 = some (ic_policy_rules_c15, [.t 2]) := by kernel_rfl
theorem fn_policy_rules_c16 : Tryz.prog.funcs[policy_rules_c16]? = some Tryz.f118 := Tryz.func118
theorem nt_policy_rules_c16 : Tryz.f118.ntmps = 5 := Tryz.ntmps118
def ic_policy_rules_c16 : IC := (.seq (io [.o 1 (.box t0), em 2 (ci 0)])
  (.seq (io [ef 3 13 13 t1, el 4 false 1 t3, em 2 t4])
  .ret))
theorem hc_policy_rules_c16 : compF Tryz.prog 5 Tryz.f118 = some (ic_policy_rules_c16, [.t 2]) := by kernel_rfl
theorem fn_policy_rules_c17 : Tryz.prog.funcs[policy_rules_c17]? = some Tryz.f119 := Tryz.func119
theorem nt_policy_rules_c17 : Tryz.f119.ntmps = 5 := Tryz.ntmps119
def ic_policy_rules_c17 : IC := (.seq (io [.o 1 (.box t0), em 2 (ci 0)])
  (.seq (io [ef 3 14 14 t1, el 4 false 1 t3, em 2 t4])
  .ret))
theorem hc_policy_rules_c17 : compF Tryz.prog 5 Tryz.f119 = some (ic_policy_rules_c17, [.t 2]) := by kernel_rfl
theorem fn_policy_rules_c18 : Tryz.prog.funcs[policy_rules_c18]? = some Tryz.f120 := Tryz.func120
theorem nt_policy_rules_c18 : Tryz.f120.ntmps = 5 := Tryz.ntmps120
def ic_policy_rules_c18 : IC := (.seq (io [.o 1 (.box t0), em 2 (ci 0)])
  (.seq (io [ef 3 15 15 t1, el 4 false 1 t3, em 2 t4])
  .ret))
theorem hc_policy_rules_c18 : compF Tryz.prog 5 Tryz.f120 = some (ic_policy_rules_c18, [.t 2]) := by kernel_rfl
theorem fn_policy_rules_c19 : Tryz.prog.funcs[policy_rules_c19]? = some Tryz.f121 := Tryz.func121
theorem nt_policy_rules_c19 : Tryz.f121.ntmps = 5 := Tryz.ntmps121
def ic_policy_rules_c19 : IC := (.seq (io [.o 1 (.box t0), em 2 (ci 0)])
  (.seq (io [ef 3 14 14 t1, el 4 false 1 t3, em 2 t4])
  .ret))
theorem hc_policy_rules_c19 : compF Tryz.prog 5 Tryz.f121 = some (ic_policy_rules_c19, [.t 2]) := by kernel_rfl
theorem fn_policy_rules_c20 : Tryz.prog.funcs[policy_rules_c20]? = some Tryz.f122 := Tryz.func122
theorem nt_policy_rules_c20 : Tryz.f122.ntmps = 5 := Tryz.ntmps122
def ic_policy_rules_c20 : IC := (.seq (io [.o 1 (.box t0), em 2 (ci 0)])
  (.seq (io [ef 3 16 16 t1, el 4 false 1 t3, em 2 t4])
  .ret))
theorem hc_policy_rules_c20 : compF Tryz.prog 5 Tryz.f122 = some (ic_policy_rules_c20, [.t 2]) := by kernel_rfl
theorem fn_policy_days : Tryz.prog.funcs[policy_days]? = some Tryz.f123 := Tryz.func123
theorem nt_policy_days : Tryz.f123.ntmps = 26 := Tryz.ntmps123
def ic_policy_days : IC := (.seq (io [.o 1 (.box t0), em 2 cf])
  (.seq (.seq (io [ef 6 17 17 t1, el 7 false 1 t6, .o 8 (.len t7), eb 9 .gtr t8 (ci 64)])
  (.cond t9
  (.seq (io [em 2 cf])
  .ret)
  .skip))
  (.seq (io [em 3 (ci 0)])
  (.seq (.seq (io [ef 10 17 17 t1, el 11 false 1 t10, .o 12 (.len t11), em 13 (ci 0)])
  (.block 0 (.loop (.seq (io [eb 14 .lss t13 t12])
  (.seq (.cond t14
  .skip
  (.exit 0))
  (.seq (.block 1 (.seq (io [es 15 1 t11 t13, el 16 false 1 t15, em 5 t16])
  (.seq (.seq (io [em 17 t5, em 18 t3, eb 19 .leq t17 t18, em 20 t19, .og 21 20 false (.mv t5), .og 22 20 false (.bin .gtr t21 (ci 3652059)), .o 23 (.pick t20 ct t22)])
  (.cond t23
  (.seq (io [em 2 cf])
  .ret)
  .skip))
  (.ops [em 24 t5, em 3 t24]))))
  (.ops [eb 25 .add t13 (ci 1), em 13 t25])))))))
  (.seq (io [em 2 ct])
  .ret)))))
theorem hc_policy_days : compF Tryz.prog 26 Tryz.f123 = some (ic_policy_days, [.t 2]) := by kernel_rfl
theorem fn_arrears_money_Sum_int64_ : Tryz.prog.funcs[arrears_money_Sum_int64_]? = some Tryz.f124 := Tryz.func124
theorem nt_arrears_money_Sum_int64_ : Tryz.f124.ntmps = 46 := Tryz.ntmps124
def ic_arrears_money_Sum_int64_ : IC := (.seq (io [em 2 (ci 0), em 3 cf])
  (.seq (io [em 4 (.c (.int .u64 0)), em 5 (.c (.int .u64 0))])
  (.seq (.seq (io [em 9 t0, .o 10 (.len t9), em 11 (ci 0)])
  (.block 0 (.loop (.seq (io [eb 12 .lss t11 t10])
  (.seq (.cond t12
  .skip
  (.exit 0))
  (.seq (.block 1 (.seq (io [es 13 1 t9 t11, el 14 false 1 t13, em 7 t14])
  (.seq (io [em 8 (.c (.int .u64 0))])
  (.seq (io [em 16 t5, em 17 t7, .o 18 (.conv .u64 t17), .o 19 (.xcall 155 [t16, t18, (.c (.int .u64 0))]), em 15 t19, ex 20 0 t15, ex 21 1 t15, em 5 t20, em 8 t21])
  (.seq (io [em 22 t4, em 23 t8, eb 24 .add t22 t23, em 4 t24])
  (.seq (io [em 25 t7, eb 26 .lss t25 (ci 0)])
  (.cond t26
  (.ops [em 27 t4, eb 28 .sub t27 (.c (.int .u64 1)), em 4 t28])
  .skip)))))))
  (.ops [eb 29 .add t11 (ci 1), em 11 t29])))))))
  (.seq (.seq (io [em 30 t4, eb 31 .eql t30 (.c (.int .u64 0)), em 32 t31, .og 33 32 true (.mv t5), .og 34 32 true (.bin .leq t33 (.c (.int .u64 9223372036854775807))), .o 35 (.pick t32 t34 cf), em 36 t35, .og 37 36 false (.mv t4), .og 38 36 false (.bin .eql t37 (.c (.int .u64 18446744073709551615))), .og 39 36 false (.mv t38), .og 40 39 true (.mv t5), .og 41 39 true (.bin .geq t40 (.c (.int .u64 9223372036854775808))), .og 42 36 false (.pick t39 t41 cf), .o 43 (.pick t36 ct t42)])
  (.cond t43
  (.seq (io [em 44 t5, .o 45 (.conv .i64 t44), em 2 t45, em 3 ct])
  .ret)
  .skip))
  (.seq (io [em 2 (ci 0), em 3 cf])
  .ret)))))
theorem hc_arrears_money_Sum_int64_ : compF Tryz.prog 46 Tryz.f124 = some (ic_arrears_money_Sum_int64_, [.t 2, .t 3]) := by kernel_rfl
theorem fn_r10_late : Tryz.prog.funcs[r10_late]? = some Tryz.f125 := Tryz.func125
theorem nt_r10_late : Tryz.f125.ntmps = 13 := Tryz.ntmps125
def ic_r10_late : IC := (.seq (io [.o 2 (.box t0), em 4 (ci 0)])
  (.seq (.seq (io [em 5 t1, ef 6 0 0 t2, el 7 false 1 t6, eb 8 .leq t5 t7])
  (.cond t8
  (.seq (io [em 4 (ci 0)])
  .ret)
  .skip))
  (.seq (io [em 9 t1, ef 10 0 0 t2, el 11 false 1 t10, eb 12 .sub t9 t11, em 4 t12])
  .ret)))
theorem hc_r10_late : compF Tryz.prog 13 Tryz.f125 = some (ic_r10_late, [.t 4]) := by kernel_rfl
theorem fn_r10_before : Tryz.prog.funcs[r10_before]? = some Tryz.f126 := Tryz.func126
theorem nt_r10_before : Tryz.f126.ntmps = 26 := Tryz.ntmps126
def ic_r10_before : IC := (.seq (io [em 4 (ci 0)])
  (.seq (io [em 5 (ci 0)])
  (.seq (.seq (io [em 6 (ci 0)])
  (.block 0 (.loop (.seq (.seq (io [em 7 t6, em 8 t1, eb 9 .lss t7 t8])
  (.cond t9
  .skip
  (.exit 0)))
  (.seq (.block 1 (.dops [em 12 t5, em 13 t0, em 14 t6, es 15 4 t13 t14, ef 16 1 1 t15, el 17 false 1 t16, eb 18 .add t12 t17, em 19 t0, em 20 t6, es 21 4 t19 t20, ef 22 2 2 t21, el 23 false 1 t22, eb 24 .add t18 t23, em 5 t24]))
  (.ops [em 10 t6, eb 11 .add t10 (ci 1), em 6 t11]))))))
  (.seq (io [em 25 t5, em 4 t25])
  .ret))))
theorem hc_r10_before : compF Tryz.prog 26 Tryz.f126 = some (ic_r10_before, [.t 4]) := by kernel_rfl
theorem fn_r10_paid : Tryz.prog.funcs[r10_paid]? = some Tryz.f127 := Tryz.func127
theorem nt_r10_paid : Tryz.f127.ntmps = 8 := Tryz.ntmps127
def ic_r10_paid : IC := (.seq (io [.o 1 (.box t0), em 2 (ci 0)])
  (.seq (.seq (io [ef 3 0 0 t1, el 4 false 1 t3, eb 5 .lss t4 (ci 0)])
  (.cond t5
  (.seq (io [em 2 (ci 0)])
  .ret)
  .skip))
  (.seq (io [ef 6 0 0 t1, el 7 false 1 t6, em 2 t7])
  .ret)))
theorem hc_r10_paid : compF Tryz.prog 8 Tryz.f127 = some (ic_r10_paid, [.t 2]) := by kernel_rfl
theorem fn_r8_is : Tryz.prog.funcs[r8_is]? = some Tryz.f128 := Tryz.func128
theorem nt_r8_is : Tryz.f128.ntmps = 9 := Tryz.ntmps128
def ic_r8_is : IC := (.seq (io [em 2 cf])
  (.seq (io [em 3 t0, eb 4 .geq t3 (ci 0), em 5 t4, .og 6 5 true (.mv t0), .og 7 5 true (.bin .lss t6 (ci 12)), .o 8 (.pick t5 t7 cf), em 2 t8])
  .ret))
theorem hc_r8_is : compF Tryz.prog 9 Tryz.f128 = some (ic_r8_is, [.t 2]) := by kernel_rfl
theorem fn_r8_Debits : Tryz.prog.funcs[r8_Debits]? = some Tryz.f129 := Tryz.func129
theorem nt_r8_Debits : Tryz.f129.ntmps = 11 := Tryz.ntmps129
def ic_r8_Debits : IC := (.seq (io [em 2 cf])
  (.seq (.seq (io [em 3 t0])
  (.block 0 (.seq (.seq (io [eb 5 .eql t3 (ci 0), em 4 t5])
  (.cond t4
  .skip
  (.seq (io [eb 6 .eql t3 (ci 1), em 4 t6])
  (.cond t4
  .skip
  (.seq (io [eb 7 .eql t3 (ci 2), em 4 t7])
  (.cond t4
  .skip
  (.seq (io [eb 8 .eql t3 (ci 3), em 4 t8])
  (.cond t4
  .skip
  (.seq (io [eb 9 .eql t3 (ci 9), em 4 t9])
  (.cond t4
  .skip
  (.ops [eb 10 .eql t3 (ci 11), em 4 t10])))))))))))
  (.cond t4
  (.seq (io [em 2 ct])
  .ret)
  .skip))))
  (.seq (io [em 2 cf])
  .ret)))
theorem hc_r8_Debits : compF Tryz.prog 11 Tryz.f129 = some (ic_r8_Debits, [.t 2]) := by kernel_rfl
theorem fn_r10_Sound : Tryz.prog.funcs[r10_Sound]? = some Tryz.f130 := Tryz.func130
theorem nt_r10_Sound : Tryz.f130.ntmps = 65 := Tryz.ntmps130
def ic_r10_Sound : IC := (.seq (io [em 2 cf])
  (.seq (.seq (io [em 3 (ci 0)])
  (.block 0 (.loop (.seq (.seq (io [em 6 t3, em 7 t0, .o 8 (.len t7), eb 9 .lss t6 t8])
  (.cond t9
  .skip
  (.exit 0)))
  (.seq (.block 1 (.seq (.seq (io [em 12 t0, em 13 t3, es 14 4 t12 t13, ef 15 0 0 t14, el 16 false 1 t15, eb 17 .lss t16 (ci 1), em 18 t17, .og 19 18 false (.mv t0), .og 20 18 false (.mv t3), .og 21 18 false (.ixs 4 t19 t20), .og 22 18 false (.fa 0 0 t21), .og 23 18 false (.ld false 1 t22), .og 24 18 false (.bin .gtr t23 (ci 3652059)), .o 25 (.pick t18 ct t24), em 26 t25, .og 27 26 false (.mv t0), .og 28 26 false (.mv t3), .og 29 26 false (.ixs 4 t27 t28), .og 30 26 false (.fa 1 1 t29), .og 31 26 false (.ld false 1 t30), .og 32 26 false (.bin .lss t31 (ci 0)), .o 33 (.pick t26 ct t32), em 34 t33, .og 35 34 false (.mv t0), .og 36 34 false (.mv t3), .og 37 34 false (.ixs 4 t35 t36), .og 38 34 false (.fa 2 2 t37), .og 39 34 false (.ld false 1 t38), .og 40 34 false (.bin .lss t39 (ci 0)), .o 41 (.pick t34 ct t40)])
  (.cond t41
  (.seq (io [em 2 cf])
  .ret)
  .skip))
  (.seq (.dops [em 42 t3, eb 43 .gtr t42 (ci 0), em 44 t43, .og 45 44 true (.mv t0), .og 46 44 true (.mv t3), .og 47 44 true (.ixs 4 t45 t46), .og 48 44 true (.fa 0 0 t47), .og 49 44 true (.ld false 1 t48), .og 50 44 true (.mv t0), .og 51 44 true (.mv t3), .og 52 44 true (.bin .sub t51 (ci 1)), .og 53 44 true (.ixs 4 t50 t52), .og 54 44 true (.fa 0 0 t53), .og 55 44 true (.ld false 1 t54), .og 56 44 true (.bin .leq t49 t55), .o 57 (.pick t44 t56 cf)])
  (.cond t57
  (.seq (io [em 2 cf])
  .ret)
  .skip))))
  (.ops [em 10 t3, eb 11 .add t10 (ci 1), em 3 t11]))))))
  (.seq (io [em 59 t0, ec 60 156 [t59], ec 61 26 [t60], em 58 t61, ex 62 0 t58, ex 63 1 t58, em 4 t62, em 5 t63])
  (.seq (io [em 64 t5, em 2 t64])
  .ret))))
theorem hc_r10_Sound : compF Tryz.prog 65 Tryz.f130 = some (ic_r10_Sound, [.t 2]) := by kernel_rfl
theorem fn_math_bits_LeadingZeros64 : Tryz.prog.funcs[math_bits_LeadingZeros64]? = some Tryz.f131 := Tryz.func131
theorem nt_math_bits_LeadingZeros64 : Tryz.f131.ntmps = 6 := Tryz.ntmps131
def ic_math_bits_LeadingZeros64 : IC := (.seq (io [em 2 (ci 0)])
  (.seq (io [em 3 t0, ec 4 157 [t3], eb 5 .sub (ci 64) t4, em 2 t5])
  .ret))
theorem hc_math_bits_LeadingZeros64 : compF Tryz.prog 6 Tryz.f131 = some (ic_math_bits_LeadingZeros64, [.t 2]) := by kernel_rfl
theorem fn_r14_copied : Tryz.prog.funcs[r14_copied]? = some Tryz.f132 := Tryz.func132
theorem nt_r14_copied : Tryz.f132.ntmps = 23 := Tryz.ntmps132
def ic_r14_copied : IC := (.seq (io [.o 1 (.box t0), .o 2 (.alloc (.st (zc (.cons (.st (zc (zc (zc (zc (zc (zc .nil))))))) (.cons zs (.cons (.st (.cons (.arr 12 1 fun _ => zi) .nil)) (.cons (.st (zc (zf (zc (zc (zc (zc (zc (zc (zc (zc (zc (zc (zc (zc (zc .nil)))))))))))))))) (zc (zc (zc (.cons (.st (zc (zc (zc (zc (zc .nil)))))) (zf (zc (zc .nil))))))))))))))])
  (.seq (io [em 3 (.c (.slice none 0 0))])
  (.seq (.seq (io [em 4 (ci 0)])
  (.block 0 (.loop (.seq (.seq (io [em 5 t4, ef 6 2 7 t1, el 7 false 1 t6, .o 8 (.len t7), eb 9 .lss t5 t8])
  (.cond t9
  .skip
  (.exit 0)))
  (.seq (.block 1 (.ops [em 12 t3, ef 13 2 7 t1, el 14 false 1 t13, em 15 t4, es 16 4 t14 t15, el 17 true 4 t16, .o 18 (.bsl 4 72 (.st (zc (zc (zc (zf .nil))))) [(0, 0, 4, t17)]), .o 19 (.app 4 32 72 t12 t18), em 3 t19]))
  (.ops [em 10 t4, eb 11 .add t10 (ci 1), em 4 t11]))))))
  (.seq (io [em 20 t3, ef 21 2 7 t1, .n (.sto 1 t21 t20)])
  (.seq (io [el 22 true 46 t1, .n (.sto 46 t2 t22)])
  .ret)))))
theorem hc_r14_copied : compF Tryz.prog 23 Tryz.f132 = some (ic_r14_copied, [.c 2 true 46]) := by kernel_rfl
theorem fn_r3_Valid : Tryz.prog.funcs[r3_Valid]? = some Tryz.f133 := Tryz.func133
theorem nt_r3_Valid : Tryz.f133.ntmps = 53 := Tryz.ntmps133
def ic_r3_Valid : IC := (.seq (io [.o 1 (.box t0), em 2 cf])
  (.seq (.seq (io [ef 3 0 0 t1, el 4 false 1 t3, eb 5 .lss t4 (ci 0), em 6 t5, .og 7 6 false (.fa 0 0 t1), .og 8 6 false (.ld false 1 t7), .og 9 6 false (.bin .gtr t8 (ci 2)), .o 10 (.pick t6 ct t9), em 11 t10, .og 12 11 false (.fa 1 1 t1), .og 13 11 false (.ld false 1 t12), .og 14 11 false (.bin .lss t13 (ci 1)), .o 15 (.pick t11 ct t14), em 16 t15, .og 17 16 false (.fa 1 1 t1), .og 18 16 false (.ld false 1 t17), .og 19 16 false (.bin .gtr t18 (ci 10000000000000)), .o 20 (.pick t16 ct t19), em 21 t20, .og 22 21 false (.fa 2 2 t1), .og 23 21 false (.ld false 1 t22), .og 24 21 false (.call 158 [t23]), .og 25 21 false (.un .not t24), .o 26 (.pick t21 ct t25)])
  (.cond t26
  (.seq (io [em 2 cf])
  .ret)
  .skip))
  (.seq (.seq (io [ef 27 3 3 t1, el 28 false 1 t27, eb 29 .lss t28 (ci 1), em 30 t29, .og 31 30 false (.fa 3 3 t1), .og 32 30 false (.ld false 1 t31), .og 33 30 false (.bin .gtr t32 (ci 120)), .o 34 (.pick t30 ct t33), em 35 t34, .og 36 35 false (.fa 4 4 t1), .og 37 35 false (.ld false 1 t36), .og 38 35 false (.bin .lss t37 (ci 1)), .o 39 (.pick t35 ct t38), em 40 t39, .og 41 40 false (.fa 4 4 t1), .og 42 40 false (.ld false 1 t41), .og 43 40 false (.bin .gtr t42 (ci 3652059)), .o 44 (.pick t40 ct t43)])
  (.cond t44
  (.seq (io [em 2 cf])
  .ret)
  .skip))
  (.seq (io [ef 45 5 5 t1, el 46 false 1 t45, eb 47 .geq t46 (ci 0), em 48 t47, .og 49 48 true (.fa 5 5 t1), .og 50 48 true (.ld false 1 t49), .og 51 48 true (.bin .leq t50 (ci 3)), .o 52 (.pick t48 t51 cf), em 2 t52])
  .ret))))
theorem hc_r3_Valid : compF Tryz.prog 53 Tryz.f133 = some (ic_r3_Valid, [.t 2]) := by kernel_rfl
theorem fn_r3_Level : Tryz.prog.funcs[r3_Level]? = some Tryz.f134 := Tryz.func134
theorem nt_r3_Level : Tryz.f134.ntmps = 51 := Tryz.ntmps134
def ic_r3_Level : IC := (.seq (io [em 6 (ci 0), em 7 cf])
  (.seq (.seq (io [em 10 t0, eb 11 .lss t10 (ci 1), em 12 t11, .og 13 12 false (.mv t1), .og 14 12 false (.call 158 [t13]), .og 15 12 false (.un .not t14), .o 16 (.pick t12 ct t15), em 17 t16, .og 18 17 false (.mv t2), .og 19 17 false (.bin .lss t18 (ci 1)), .o 20 (.pick t17 ct t19), em 21 t20, .og 22 21 false (.mv t2), .og 23 21 false (.bin .gtr t22 (ci 120)), .o 24 (.pick t21 ct t23)])
  (.cond t24
  (.seq (io [em 6 (ci 0), em 7 cf])
  .ret)
  .skip))
  (.seq (io [em 8 (ci 9223372036854775807)])
  (.seq (.seq (io [em 25 t8, em 26 t0, em 27 t1, em 28 t2, ec 29 159 [t25, t26, t27, t28], .o 30 (.un .not t29)])
  (.cond t30
  (.seq (io [em 6 (ci 0), em 7 cf])
  .ret)
  .skip))
  (.seq (.seq (io [em 9 (ci 4611686018427387904)])
  (.block 0 (.loop (.seq (.seq (io [em 31 t9, eb 32 .gtr t31 (ci 0)])
  (.cond t32
  .skip
  (.exit 0)))
  (.seq (.block 1 (.seq (io [em 35 t8, em 36 t9, eb 37 .gtr t35 t36, em 38 t37, .og 39 38 true (.mv t8), .og 40 38 true (.mv t9), .og 41 38 true (.bin .sub t39 t40), .og 42 38 true (.mv t0), .og 43 38 true (.mv t1), .og 44 38 true (.mv t2), .og 45 38 true (.call 159 [t41, t42, t43, t44]), .o 46 (.pick t38 t45 cf)])
  (.cond t46
  (.ops [em 47 t8, em 48 t9, eb 49 .sub t47 t48, em 8 t49])
  .skip)))
  (.ops [em 33 t9, eb 34 .quo t33 (ci 2), em 9 t34]))))))
  (.seq (io [em 50 t8, em 6 t50, em 7 ct])
  .ret))))))
theorem hc_r3_Level : compF Tryz.prog 51 Tryz.f134 = some (ic_r3_Level, [.t 6, .t 7]) := by kernel_rfl
theorem fn_r3_month : Tryz.prog.funcs[r3_month]? = some Tryz.f135 := Tryz.func135
theorem nt_r3_month : Tryz.f135.ntmps = 37 := Tryz.ntmps135
def ic_r3_month : IC := (.seq (io [em 4 (ci 0)])
  (.seq (io [em 8 t0, eb 9 .rem t8 (ci 120000), em 10 t1, eb 11 .mul t9 t10, em 5 t11])
  (.seq (io [em 12 t0, eb 13 .quo t12 (ci 120000), em 14 t1, eb 15 .mul t13 t14, em 16 t5, eb 17 .quo t16 (ci 120000), eb 18 .add t15 t17, em 6 t18])
  (.seq (io [em 19 t5, eb 20 .rem t19 (ci 120000), em 7 t20])
  (.seq (.seq (io [em 21 t7, eb 22 .mul (ci 2) t21, eb 23 .gtr t22 (ci 120000), em 24 t23, .og 25 24 false (.mv t7), .og 26 24 false (.bin .mul (ci 2) t25), .og 27 24 false (.bin .eql t26 (ci 120000)), .og 28 24 false (.mv t27), .og 29 28 true (.mv t6), .og 30 28 true (.bin .rem t29 (ci 2)), .og 31 28 true (.bin .eql t30 (ci 1)), .og 32 24 false (.pick t28 t31 cf), .o 33 (.pick t24 ct t32)])
  (.cond t33
  (.ops [em 34 t6, eb 35 .add t34 (ci 1), em 6 t35])
  .skip))
  (.seq (io [em 36 t6, em 4 t36])
  .ret))))))
theorem hc_r3_month : compF Tryz.prog 37 Tryz.f135 = some (ic_r3_month, [.t 4]) := by kernel_rfl
theorem fn_r3_part : Tryz.prog.funcs[r3_part]? = some Tryz.f136 := Tryz.func136
theorem nt_r3_part : Tryz.f136.ntmps = 49 := Tryz.ntmps136
def ic_r3_part : IC := (.seq (io [.o 5 (.box t0), em 10 (ci 0)])
  (.seq (.seq (io [ef 12 0 0 t5, el 13 false 1 t12, eb 14 .eql t13 (ci 0)])
  (.cond t14
  (.seq (.seq (io [em 15 t1, em 16 t4, eb 17 .sub t15 t16, em 18 t3, eb 19 .lss t17 t18])
  (.cond t19
  (.seq (io [em 20 t1, em 21 t4, eb 22 .sub t20 t21, em 10 t22])
  .ret)
  .skip))
  (.seq (io [em 23 t3, em 10 t23])
  .ret))
  .skip))
  (.seq (.seq (io [ef 24 0 0 t5, el 25 false 1 t24, eb 26 .eql t25 (ci 1)])
  (.cond t26
  (.seq (io [ef 27 1 1 t5, el 28 false 1 t27, ef 29 3 3 t5, el 30 false 1 t29, eb 31 .quo t28 t30, em 11 t31])
  (.seq (.seq (io [em 32 t2, ef 33 1 1 t5, el 34 false 1 t33, em 35 t11, ef 36 3 3 t5, el 37 false 1 t36, eb 38 .mul t35 t37, eb 39 .sub t34 t38, eb 40 .leq t32 t39])
  (.cond t40
  (.seq (io [em 41 t11, eb 42 .add t41 (ci 1), em 10 t42])
  .ret)
  .skip))
  (.seq (io [em 43 t11, em 10 t43])
  .ret)))
  .skip))
  (.seq (.seq (io [em 44 t2, ef 45 3 3 t5, el 46 false 1 t45, eb 47 .lss t44 t46])
  (.cond t47
  (.seq (io [em 10 (ci 0)])
  .ret)
  .skip))
  (.seq (io [em 48 t3, em 10 t48])
  .ret)))))
theorem hc_r3_part : compF Tryz.prog 49 Tryz.f136 = some (ic_r3_part, [.t 10]) := by kernel_rfl
theorem fn_r3_Due : Tryz.prog.funcs[r3_Due]? = some Tryz.f137 := Tryz.func137
theorem nt_r3_Due : Tryz.f137.ntmps = 36 := Tryz.ntmps137
def ic_r3_Due : IC := (.seq (io [.o 3 (.box t0), em 6 (ci 0), em 7 cf])
  (.seq (io [ef 13 4 4 t3, el 14 false 1 t13, ec 15 160 [t14], em 12 t15, ex 16 0 t12, ex 17 1 t12, .o 8 (.alloc (.st (zc (zc (zc .nil))))), .n (.sto 3 t8 t16), em 9 t17])
  (.seq (io [ef 19 4 4 t3, el 20 false 1 t19, em 21 t2, ef 22 2 2 t8, el 23 false 1 t22, ec 24 161 [t20, t21, t23], em 18 t24, ex 25 0 t18, ex 26 1 t18, em 10 t25, em 11 t26])
  (.seq (.seq (io [em 27 t11, .o 28 (.un .not t27)])
  (.cond t28
  (.seq (io [em 6 (ci 0), em 7 cf])
  .ret)
  .skip))
  (.seq (io [em 29 t10, em 30 t1, ef 31 5 5 t3, el 32 false 1 t31, ec 33 162 [t29, t30, t32], ex 34 0 t33, ex 35 1 t33, em 6 t34, em 7 t35])
  .ret)))))
theorem hc_r3_Due : compF Tryz.prog 36 Tryz.f137 = some (ic_r3_Due, [.t 6, .t 7]) := by kernel_rfl
theorem fn_r8_Post : Tryz.prog.funcs[r8_Post]? = some Tryz.f138 := Tryz.func138
theorem nt_r8_Post : Tryz.f138.ntmps = 64 := Tryz.ntmps138
def ic_r8_Post : IC := (.seq (io [.o 2 (.box t0), .o 4 (.alloc (.st (.cons (.arr 12 1 fun _ => zi) .nil))), em 5 (ci 0)])
  (.seq (.seq (io [em 6 (ci 0)])
  (.block 0 (.loop (.seq (.seq (io [em 13 t6, em 14 t1, .o 15 (.len t14), eb 16 .lss t13 t15])
  (.cond t16
  .skip
  (.exit 0)))
  (.seq (.block 1 (.seq (io [em 19 t1, em 20 t6, es 21 3 t19 t20, el 22 true 3 t21, ec 23 163 [t22], em 7 t23])
  (.seq (io [em 24 t7, eb 25 .neq t24 (ci 0)])
  (.cond t25
  (.seq (io [el 26 true 12 t2, em 27 t7, .n (.sto 12 t4 t26), em 5 t27])
  .ret)
  .skip))))
  (.ops [em 17 t6, eb 18 .add t17 (ci 1), em 6 t18]))))))
  (.seq (io [.o 8 (.alloc (.st (.cons (.arr 12 1 fun _ => zi) .nil)))])
  (.seq (.seq (io [em 9 (ci 0)])
  (.block 2 (.loop (.seq (.seq (io [em 28 t9, eb 29 .lss t28 (ci 12)])
  (.cond t29
  .skip
  (.exit 2)))
  (.seq (.block 3 (.seq (io [el 33 true 12 t2, em 34 t1, em 35 t9, ec 36 164 [t33, t34, t35], ec 37 26 [t36], em 32 t37, ex 38 0 t32, ex 39 1 t32, em 10 t38, em 11 t39])
  (.seq (.seq (io [em 40 t11, .o 41 (.un .not t40), em 42 t41, .og 43 42 false (.mv t10), .og 44 42 false (.bin .eql t43 (ci (-9223372036854775808))), .o 45 (.pick t42 ct t44)])
  (.cond t45
  (.seq (io [el 46 true 12 t2, .n (.sto 12 t4 t46), em 5 (ci 3)])
  .ret)
  .skip))
  (.ops [em 47 t9, em 48 t10, ef 49 0 0 t8, .o 50 (.ixa 12 1 t49 t47), .n (.sto 1 t50 t48)]))))
  (.ops [em 30 t9, eb 31 .add t30 (ci 1), em 9 t31]))))))
  (.seq (.seq (io [em 12 (ci 0)])
  (.block 4 (.loop (.seq (.seq (io [em 51 t12, eb 52 .lss t51 (ci 12)])
  (.cond t52
  .skip
  (.exit 4)))
  (.seq (.block 5 (.seq (io [em 55 t12, em 56 t12, ef 57 0 0 t8, .o 58 (.ixa 12 1 t57 t56), el 59 false 1 t58, ec 60 165 [t55, t59], .o 61 (.un .not t60)])
  (.cond t61
  (.seq (io [el 62 true 12 t2, .n (.sto 12 t4 t62), em 5 (ci 81)])
  .ret)
  .skip)))
  (.ops [em 53 t12, eb 54 .add t53 (ci 1), em 12 t54]))))))
  (.seq (io [el 63 true 12 t8, .n (.sto 12 t4 t63), em 5 (ci 0)])
  .ret))))))
theorem hc_r8_Post : compF Tryz.prog 64 Tryz.f138 = some (ic_r8_Post, [.c 4 true 12, .t 5]) := by kernel_rfl
theorem fn_r14_accrued : Tryz.prog.funcs[r14_accrued]? = some Tryz.f139 := Tryz.func139
theorem nt_r14_accrued : Tryz.f139.ntmps = 56 := Tryz.ntmps139
def ic_r14_accrued : IC := (.seq (io [.o 2 (.box t0), .o 4 (.alloc (.st (.cons (.st (zc (zc (zc (zc (zc (zc (zc (zc (zc (zc (zc (zc (zc (zc (zc (zc (zc (.cons zs .nil))))))))))))))))))) (.cons (.st (zc (.cons (.st (zc (zc (zc (zc (zc (zc .nil))))))) (.cons zs (.cons (.st (.cons (.arr 12 1 fun _ => zi) .nil)) (.cons (.st (zc (zf (zc (zc (zc (zc (zc (zc (zc (zc (zc (zc (zc (zc (zc .nil)))))))))))))))) (zc (zc (zc (.cons (.st (zc (zc (zc (zc (zc .nil)))))) (zf (zc (zc .nil))))))))))))) (.cons (.st (zc (zc (zc (zc (zc .nil)))))) (.cons zs (zc .nil)))))))])
  (.seq (.seq (io [ef 9 4 70 t2, el 10 false 1 t9, eb 11 .neq t10 (ci 0)])
  (.cond t11
  (.seq (io [el 12 true 71 t2, .n (.sto 71 t4 t12)])
  .ret)
  .skip))
  (.seq (io [ef 13 1 18 t2, ef 14 5 35 t13, el 15 false 1 t14, em 16 t1, eb 17 .add t15 t16, ef 18 1 18 t2, ef 19 5 35 t18, .n (.sto 1 t19 t17)])
  (.seq (.seq (io [ef 20 1 18 t2, el 21 true 46 t20, ec 22 140 [t21]])
  (.cond t22
  (.seq (io [el 23 true 71 t2, .n (.sto 71 t4 t23)])
  .ret)
  .skip))
  (.seq (.dops [ef 25 1 18 t2, el 26 true 46 t25, ec 27 46 [t26, (ci 1)], ef 28 1 18 t2, ef 29 1 1 t28, ef 30 2 2 t29, el 31 false 1 t30, ef 32 1 18 t2, ef 33 6 36 t32, el 34 false 1 t33, em 35 t1, ec 36 166 [t27, t31, t34, t35], em 24 t36, ex 37 0 t24, ex 38 1 t24, ex 39 2 t24, em 5 t37, em 6 t38, em 7 t39])
  (.seq (io [el 40 true 71 t2, em 41 t7, .o 42 (.un .not t41), ec 43 85 [t40, t42, (ci 3)], .n (.sto 71 t2 t43)])
  (.seq (io [em 44 t6, ef 45 1 18 t2, ef 46 6 36 t45, .n (.sto 1 t46 t44)])
  (.seq (io [em 8 (ci 7)])
  (.seq (.seq (io [ef 47 1 18 t2, ef 48 4 20 t47, ef 49 1 1 t48, el 50 false 1 t49])
  (.cond t50
  (.ops [em 8 (ci 5)])
  .skip))
  (.seq (.dops [el 51 true 71 t2, em 52 t8, em 53 t5, ec 54 90 [(.c (.slice none 0 0)), (ci 2), t52, t53], ec 55 89 [t51, t54], .n (.sto 71 t4 t55)])
  .ret))))))))))
theorem hc_r14_accrued : compF Tryz.prog 56 Tryz.f139 = some (ic_r14_accrued, [.c 4 true 71]) := by kernel_rfl
theorem fn_r14_over : Tryz.prog.funcs[r14_over]? = some Tryz.f140 := Tryz.func140
theorem nt_r14_over : Tryz.f140.ntmps = 13 := Tryz.ntmps140
def ic_r14_over : IC := (.seq (io [.o 1 (.box t0), em 2 cf])
  (.seq (io [ef 3 4 20 t1, ef 4 0 0 t3, el 5 false 1 t4, eb 6 .eql t5 (ci 9), em 7 t6, .og 8 7 false (.fa 4 20 t1), .og 9 7 false (.fa 0 0 t8), .og 10 7 false (.ld false 1 t9), .og 11 7 false (.bin .eql t10 (ci 8)), .o 12 (.pick t7 ct t11), em 2 t12])
  .ret))
theorem hc_r14_over : compF Tryz.prog 13 Tryz.f140 = some (ic_r14_over, [.t 2]) := by kernel_rfl
theorem fn_r14_played : Tryz.prog.funcs[r14_played]? = some Tryz.f141 := Tryz.func141
theorem nt_r14_played : Tryz.f141.ntmps = 45 := Tryz.ntmps141
def ic_r14_played : IC := (.seq (io [.o 2 (.box t0), .o 3 (.box t1), .o 4 (.alloc (.st (.cons (.st (zc (zc (zc (zc (zc (zc (zc (zc (zc (zc (zc (zc (zc (zc (zc (zc (zc (.cons zs .nil))))))))))))))))))) (.cons (.st (zc (.cons (.st (zc (zc (zc (zc (zc (zc .nil))))))) (.cons zs (.cons (.st (.cons (.arr 12 1 fun _ => zi) .nil)) (.cons (.st (zc (zf (zc (zc (zc (zc (zc (zc (zc (zc (zc (zc (zc (zc (zc .nil)))))))))))))))) (zc (zc (zc (.cons (.st (zc (zc (zc (zc (zc .nil)))))) (zf (zc (zc .nil))))))))))))) (.cons (.st (zc (zc (zc (zc (zc .nil)))))) (.cons zs (zc .nil)))))))])
  (.seq (.seq (io [ef 9 4 70 t2, el 10 false 1 t9, eb 11 .neq t10 (ci 0)])
  (.cond t11
  (.seq (io [el 12 true 71 t2, .n (.sto 71 t4 t12)])
  .ret)
  .skip))
  (.seq (io [ef 14 0 0 t2, el 15 true 18 t14, ef 16 1 18 t2, ef 17 4 20 t16, el 18 true 15 t17, el 19 true 4 t3, ec 20 167 [t15, t18, t19], em 13 t20, ex 21 0 t13, ex 22 1 t13, ex 23 2 t13, .o 5 (.alloc (.st (zc (zf (zc (zc (zc (zc (zc (zc (zc (zc (zc (zc (zc (zc (zc .nil))))))))))))))))), .n (.sto 15 t5 t21), em 6 t22, em 7 t23])
  (.seq (.seq (io [em 24 t7, eb 25 .neq t24 (ci 0)])
  (.cond t25
  (.seq (io [em 26 t7, ef 27 4 70 t2, .n (.sto 1 t27 t26)])
  (.seq (io [el 28 true 71 t2, .n (.sto 71 t4 t28)])
  .ret))
  .skip))
  (.seq (io [el 29 true 15 t5, ef 30 1 18 t2, ef 31 4 20 t30, .n (.sto 15 t31 t29)])
  (.seq (.seq (io [em 8 (ci 0)])
  (.block 0 (.loop (.seq (.seq (io [em 32 t8, em 33 t6, .o 34 (.len t33), eb 35 .lss t32 t34])
  (.cond t35
  .skip
  (.exit 0)))
  (.seq (.block 1 (.dops [el 38 true 71 t2, em 39 t6, em 40 t8, es 41 1 t39 t40, el 42 false 1 t41, ec 43 168 [t38, t42], .n (.sto 71 t2 t43)]))
  (.ops [em 36 t8, eb 37 .add t36 (ci 1), em 8 t37]))))))
  (.seq (io [el 44 true 71 t2, .n (.sto 71 t4 t44)])
  .ret)))))))
theorem hc_r14_played : compF Tryz.prog 45 Tryz.f141 = some (ic_r14_played, [.c 4 true 71]) := by kernel_rfl
theorem fn_r14_charged : Tryz.prog.funcs[r14_charged]? = some Tryz.f142 := Tryz.func142
theorem nt_r14_charged : Tryz.f142.ntmps = 90 := Tryz.ntmps142
def ic_r14_charged : IC := (.seq (io [.o 1 (.box t0), .o 2 (.alloc (.st (.cons (.st (zc (zc (zc (zc (zc (zc (zc (zc (zc (zc (zc (zc (zc (zc (zc (zc (zc (.cons zs .nil))))))))))))))))))) (.cons (.st (zc (.cons (.st (zc (zc (zc (zc (zc (zc .nil))))))) (.cons zs (.cons (.st (.cons (.arr 12 1 fun _ => zi) .nil)) (.cons (.st (zc (zf (zc (zc (zc (zc (zc (zc (zc (zc (zc (zc (zc (zc (zc .nil)))))))))))))))) (zc (zc (zc (.cons (.st (zc (zc (zc (zc (zc .nil)))))) (zf (zc (zc .nil))))))))))))) (.cons (.st (zc (zc (zc (zc (zc .nil)))))) (.cons zs (zc .nil)))))))])
  (.seq (.seq (io [ef 7 4 70 t1, el 8 false 1 t7, eb 9 .neq t8 (ci 0), em 10 t9, .og 11 10 false (.fa 1 18 t1), .og 12 10 false (.fa 4 20 t11), .og 13 10 false (.ld true 15 t12), .og 14 10 false (.call 169 [t13]), .og 15 10 false (.un .not t14), .o 16 (.pick t10 ct t15), em 17 t16, .og 18 17 false (.fa 1 18 t1), .og 19 17 false (.fa 4 20 t18), .og 20 17 false (.fa 0 0 t19), .og 21 17 false (.ld false 1 t20), .og 22 17 false (.bin .eql t21 (ci 4)), .o 23 (.pick t17 ct t22)])
  (.cond t23
  (.seq (io [el 24 true 71 t1, .n (.sto 71 t2 t24)])
  .ret)
  .skip))
  (.seq (.dops [ef 25 1 18 t1, ef 26 2 7 t25, el 27 false 1 t26, ef 28 1 18 t1, el 29 true 46 t28, ec 30 48 [t29], ef 31 1 18 t1, ef 32 5 35 t31, el 33 false 1 t32, ef 34 0 0 t1, ef 35 1 1 t34, el 36 false 1 t35, ec 37 170 [t27, t30, t33, t36], em 3 t37])
  (.seq (.seq (io [em 4 (ci 0)])
  (.block 0 (.loop (.seq (.seq (io [em 38 t4, em 39 t3, .o 40 (.len t39), eb 41 .lss t38 t40])
  (.cond t41
  .skip
  (.exit 0)))
  (.seq (.block 1 (.seq (.dops [ef 44 1 18 t1, ef 45 2 7 t44, el 46 false 1 t45, em 47 t3, em 48 t4, es 49 1 t47 t48, el 50 false 1 t49, es 51 4 t46 t50, el 52 true 4 t51, .o 5 (.alloc (.st (zc (zc (zc (zf .nil)))))), .n (.sto 4 t5 t52)])
  (.seq (io [ef 53 0 0 t1, el 54 true 18 t53, ef 55 1 1 t5, el 56 false 1 t55, ef 57 2 2 t5, el 58 false 1 t57, eb 59 .add t56 t58, ef 60 1 18 t1, ef 61 4 20 t60, ef 62 13 13 t61, el 63 false 1 t62, ef 64 1 18 t1, ef 65 4 20 t64, ef 66 14 14 t65, el 67 false 1 t66, ec 68 171 [t54, t59, t63, t67], em 6 t68])
  (.seq (io [em 69 t6, eb 70 .gtr t69 (ci 0)])
  (.cond t70
  (.seq (io [el 71 true 71 t1, em 72 t6, .o 73 (.build (.st (zc (zc (zc (zc .nil))))) [(0, 0, 1, (ci 6)), (3, 3, 1, t72)]), ec 74 141 [t71, t73], .n (.sto 71 t1 t74)])
  (.seq (.dops [el 75 true 71 t1, em 76 t6, ec 77 90 [(.c (.slice none 0 0)), (ci 3), (ci 8), t76], ec 78 89 [t75, t77], .n (.sto 71 t1 t78)])
  (.ops [el 79 true 71 t1, em 80 t6, ec 81 148 [t79, (ci 5), t80], .n (.sto 71 t1 t81)])))
  .skip)))))
  (.ops [em 42 t4, eb 43 .add t42 (ci 1), em 4 t43]))))))
  (.seq (io [ef 82 1 18 t1, ef 83 2 7 t82, el 84 false 1 t83, em 85 t3, ec 86 172 [t84, t85], ef 87 1 18 t1, ef 88 2 7 t87, .n (.sto 1 t88 t86)])
  (.seq (io [el 89 true 71 t1, .n (.sto 71 t2 t89)])
  .ret))))))
theorem hc_r14_charged : compF Tryz.prog 90 Tryz.f142 = some (ic_r14_charged, [.c 2 true 71]) := by kernel_rfl
theorem fn_r14_parted : Tryz.prog.funcs[r14_parted]? = some Tryz.f143 := Tryz.func143
theorem nt_r14_parted : Tryz.f143.ntmps = 34 := Tryz.ntmps143
def ic_r14_parted : IC := (.seq (io [.o 3 (.box t0), .o 4 (.box t1), .o 6 (.alloc (.st (zc (zc (zc (zc (zc .nil))))))), em 7 (ci 0)])
  (.seq (.seq (io [ef 8 4 20 t4, ef 9 0 0 t8, el 10 false 1 t9])
  (.block 0 (.seq (io [eb 12 .eql t10 (ci 9), em 11 t12])
  (.cond t11
  (.seq (io [em 13 t2, .o 14 (.build (.st (zc (zc (zc (zc (zc .nil)))))) [(3, 3, 1, t13)]), .n (.sto 5 t6 t14), em 7 (ci 0)])
  .ret)
  (.seq (io [eb 16 .eql t10 (ci 8), em 15 t16])
  (.cond t15
  (.seq (.dops [ef 17 10 44 t4, el 18 false 1 t17, el 19 true 46 t4, ec 20 46 [t19, (ci 10)], eb 21 .sub t18 t20, em 22 t2, ec 23 173 [t21, t22], ex 24 0 t23, ex 25 1 t23, .n (.sto 5 t6 t24), em 7 t25])
  .ret)
  .skip))))))
  (.seq (.dops [ef 26 12 12 t3, el 27 false 1 t26, el 28 true 46 t4, ec 29 149 [t28], em 30 t2, ec 31 174 [t27, t29, t30], ex 32 0 t31, ex 33 1 t31, .n (.sto 5 t6 t32), em 7 t33])
  .ret)))
theorem hc_r14_parted : compF Tryz.prog 34 Tryz.f143 = some (ic_r14_parted, [.c 6 true 5, .t 7]) := by kernel_rfl
end Go.Proofs.YtjkmmcbfcglkdaaGreatDoor
