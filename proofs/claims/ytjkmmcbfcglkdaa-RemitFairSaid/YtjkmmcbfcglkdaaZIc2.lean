/- The given functions as the walk reads them, continued. No condition. -/
import Derived.Test.YtjkmmcbfcglkdaaZIc
set_option linter.all false
namespace Go.Proofs.Ytjkmmcbfcglkdaa
open Go Ar
set_option linter.unusedVariables false
set_option maxRecDepth 100000

theorem fn_r29_isDay : Try.prog.funcs[r29_isDay]? = some Try.f50 := Try.func50
theorem nt_r29_isDay : Try.f50.ntmps = 9 := Try.ntmps50
def ic_r29_isDay : IC := (.seq (io [em 2 cf])
  (.seq (io [em 3 t0, eb 4 .geq t3 (ci 1), em 5 t4, .og 6 5 true (.mv t0), .og 7 5 true (.bin .leq t6 (ci 3652059)), .o 8 (.pick t5 t7 cf), em 2 t8])
  .ret))
theorem hc_r29_isDay : compF Try.prog 9 Try.f50 = some (ic_r29_isDay, [.t 2]) := by kernel_rfl

theorem fn_r1_high : Try.prog.funcs[r1_high]? = some Try.f52 := Try.func52
theorem nt_r1_high : Try.f52.ntmps = 5 := Try.ntmps52
def ic_r1_high : IC := (.seq (io [em 2 (ci 0)])
  (.seq (io [em 3 t0, eb 4 .shr t3 (.c (.int .u64 32)), em 2 t4])
  .ret))
theorem hc_r1_high : compF Try.prog 5 Try.f52 = some (ic_r1_high, [.t 2]) := by kernel_rfl

theorem fn_r1_lowOf : Try.prog.funcs[r1_lowOf]? = some Try.f53 := Try.func53
theorem nt_r1_lowOf : Try.f53.ntmps = 8 := Try.ntmps53
def ic_r1_lowOf : IC := (.seq (io [em 2 (ci 0)])
  (.seq (io [em 3 t0, em 4 t0, ec 5 52 [t4], eb 6 .mul t5 (ci 4294967296), eb 7 .sub t3 t6, em 2 t7])
  .ret))
theorem hc_r1_lowOf : compF Try.prog 8 Try.f53 = some (ic_r1_lowOf, [.t 2]) := by kernel_rfl

theorem fn_r1_joined : Try.prog.funcs[r1_joined]? = some Try.f54 := Try.func54
theorem nt_r1_joined : Try.f54.ntmps = 26 := Try.ntmps54
def ic_r1_joined : IC := (.seq (io [em 4 (ci 0), em 5 cf])
  (.seq (io [em 7 t1, eb 8 .shr t7 (.c (.int .u64 32)), em 6 t8])
  (.seq (io [em 9 t0, em 10 t6, eb 11 .add t9 t10, em 0 t11])
  (.seq (io [em 12 t1, em 13 t6, eb 14 .mul t13 (ci 4294967296), eb 15 .sub t12 t14, em 1 t15])
  (.seq (.seq (io [em 16 t0, eb 17 .lss t16 (ci (-2147483648)), em 18 t17, .og 19 18 false (.mv t0), .og 20 18 false (.bin .gtr t19 (ci 2147483647)), .o 21 (.pick t18 ct t20)])
  (.cond t21
  (.seq (io [em 4 (ci 0), em 5 cf])
  .ret)
  .skip))
  (.seq (io [em 22 t0, eb 23 .mul t22 (ci 4294967296), em 24 t1, eb 25 .add t23 t24, em 4 t25, em 5 ct])
  .ret))))))
theorem hc_r1_joined : compF Try.prog 26 Try.f54 = some (ic_r1_joined, [.t 4, .t 5]) := by kernel_rfl

theorem fn_money_Bps : Try.prog.funcs[money_Bps]? = some Try.f55 := Try.func55
theorem nt_money_Bps : Try.f55.ntmps = 11 := Try.ntmps55
def ic_money_Bps : IC := (.seq (io [em 4 (ci 0), em 5 cf])
  (.seq (io [em 6 t0, em 7 t1, ec 8 64 [t6, t7, (ci 10000)], ex 9 0 t8, ex 10 1 t8, em 4 t9, em 5 t10])
  .ret))
theorem hc_money_Bps : compF Try.prog 11 Try.f55 = some (ic_money_Bps, [.t 4, .t 5]) := by kernel_rfl

theorem fn_money_Split : Try.prog.funcs[money_Split]? = some Try.f56 := Try.func56
theorem nt_money_Split : Try.f56.ntmps = 88 := Try.ntmps56
def ic_money_Split : IC := (.seq (io [em 4 (.c (.slice none 0 0)), em 5 cf])
  (.seq (io [em 17 t0, em 18 t1, ec 19 65 [t17, t18], em 16 t19, ex 20 0 t16, ex 21 1 t16, em 6 t20, em 7 t21])
  (.seq (.seq (io [em 22 t7, .o 23 (.un .not t22)])
  (.cond t23
  (.seq (io [em 4 (.c (.slice none 0 0)), em 5 cf])
  .ret)
  .skip))
  (.seq (io [em 24 t1, .o 25 (.len t24), .o 26 (.mks 1 8 2 zi t25 t25), em 8 t26])
  (.seq (io [em 27 t1, .o 28 (.len t27), .o 29 (.mks 1 8 2 zi t28 t28), em 9 t29])
  (.seq (io [em 30 t0, em 10 t30])
  (.seq (.seq (io [em 31 t1, .o 32 (.len t31), em 33 (ci 0)])
  (.block 0 (.loop (.seq (io [eb 34 .lss t33 t32])
  (.seq (.cond t34
  .skip
  (.exit 0))
  (.seq (.block 1 (.seq (io [em 35 t33, es 36 1 t31 t33, el 37 false 1 t36, em 11 t35, em 12 t37])
  (.seq (io [em 39 t8, em 40 t11, em 41 t9, em 42 t11, em 43 t0, em 44 t12, em 45 t6, ec 46 57 [t43, t44, t45], em 38 t46, ex 47 0 t38, ex 48 1 t38, ex 49 2 t38, es 50 1 t39 t40, .n (.sto 1 t50 t47), es 51 1 t41 t42, .n (.sto 1 t51 t48)])
  (.ops [em 52 t10, em 53 t8, em 54 t11, es 55 1 t53 t54, el 56 false 1 t55, eb 57 .sub t52 t56, em 10 t57]))))
  (.ops [eb 58 .add t33 (ci 1), em 33 t58])))))))
  (.seq (.block 2 (.loop (.seq (.seq (io [em 59 t10, eb 60 .gtr t59 (ci 0)])
  (.cond t60
  .skip
  (.exit 2)))
  (.seq (.block 3 (.seq (io [em 13 (ci 0)])
  (.seq (.seq (io [em 63 t9, .o 64 (.len t63), em 65 (ci 0)])
  (.block 4 (.loop (.seq (io [eb 66 .lss t65 t64])
  (.seq (.cond t66
  .skip
  (.exit 4))
  (.seq (.block 5 (.seq (io [em 67 t65, es 68 1 t63 t65, el 69 false 1 t68, em 14 t67, em 15 t69])
  (.seq (io [em 70 t15, em 71 t9, em 72 t13, es 73 1 t71 t72, el 74 false 1 t73, eb 75 .gtr t70 t74])
  (.cond t75
  (.ops [em 76 t14, em 13 t76])
  .skip))))
  (.ops [eb 77 .add t65 (ci 1), em 65 t77])))))))
  (.seq (io [em 78 t8, em 79 t13, es 80 1 t78 t79, el 81 false 1 t80, eb 82 .add t81 (ci 1), es 83 1 t78 t79, .n (.sto 1 t83 t82)])
  (.ops [em 84 t9, em 85 t13, es 86 1 t84 t85, .n (.sto 1 t86 (ci (-1)))])))))
  (.ops [em 61 t10, eb 62 .sub t61 (ci 1), em 10 t62])))))
  (.seq (io [em 87 t8, em 4 t87, em 5 ct])
  .ret)))))))))
theorem hc_money_Split : compF Try.prog 88 Try.f56 = some (ic_money_Split, [.t 4, .t 5]) := by kernel_rfl

theorem fn_money_MulDivFloor : Try.prog.funcs[money_MulDivFloor]? = some Try.f57 := Try.func57
theorem nt_money_MulDivFloor : Try.f57.ntmps = 67 := Try.ntmps57
def ic_money_MulDivFloor : IC := (.seq (io [em 6 (ci 0), em 7 (ci 0), em 8 cf])
  (.seq (.seq (io [em 17 t2, eb 18 .leq t17 (ci 0)])
  (.cond t18
  (.seq (io [em 6 (ci 0), em 7 (ci 0), em 8 cf])
  .ret)
  .skip))
  (.seq (io [em 19 t2, .o 20 (.conv .u64 t19), em 9 t20])
  (.seq (io [em 22 t0, ec 23 67 [t22], em 24 t1, ec 25 67 [t24], ec 26 66 [t23, t25], em 21 t26, ex 27 0 t21, ex 28 1 t21, em 10 t27, em 11 t28])
  (.seq (.seq (io [em 29 t10, em 30 t9, eb 31 .geq t29 t30])
  (.cond t31
  (.seq (io [em 6 (ci 0), em 7 (ci 0), em 8 cf])
  .ret)
  .skip))
  (.seq (io [em 33 t10, em 34 t11, em 35 t9, ec 36 68 [t33, t34, t35], em 32 t36, ex 37 0 t32, ex 38 1 t32, em 12 t37, em 13 t38])
  (.seq (io [em 39 t0, eb 40 .lss t39 (ci 0), em 41 t1, eb 42 .lss t41 (ci 0), .o 43 (.eqv true t40 t42), em 14 t43])
  (.seq (.seq (io [em 44 t14, em 45 t44, .og 46 45 true (.mv t13), .og 47 45 true (.bin .gtr t46 (.c (.int .u64 0))), .o 48 (.pick t45 t47 cf)])
  (.cond t48
  (.seq (io [em 49 t12, eb 50 .add t49 (.c (.int .u64 1)), em 12 t50])
  (.seq (io [em 51 t9, em 52 t13, eb 53 .sub t51 t52, em 13 t53])
  (.seq (io [em 54 t12, eb 55 .eql t54 (.c (.int .u64 0))])
  (.cond t55
  (.seq (io [em 6 (ci 0), em 7 (ci 0), em 8 cf])
  .ret)
  .skip))))
  .skip))
  (.seq (io [em 57 t14, em 58 t12, ec 59 69 [t57, t58], em 56 t59, ex 60 0 t56, ex 61 1 t56, em 15 t60, em 16 t61])
  (.seq (.seq (io [em 62 t16, .o 63 (.un .not t62)])
  (.cond t63
  (.seq (io [em 6 (ci 0), em 7 (ci 0), em 8 cf])
  .ret)
  .skip))
  (.seq (io [em 64 t15, em 65 t13, .o 66 (.conv .i64 t65), em 6 t64, em 7 t66, em 8 ct])
  .ret)))))))))))
theorem hc_money_MulDivFloor : compF Try.prog 67 Try.f57 = some (ic_money_MulDivFloor, [.t 6, .t 7, .t 8]) := by kernel_rfl

theorem fn_arrears_money_Sum_int64_ : Try.prog.funcs[arrears_money_Sum_int64_]? = some Try.f58 := Try.func58
theorem nt_arrears_money_Sum_int64_ : Try.f58.ntmps = 46 := Try.ntmps58
def ic_arrears_money_Sum_int64_ : IC := (.seq (io [em 2 (ci 0), em 3 cf])
  (.seq (io [em 4 (.c (.int .u64 0)), em 5 (.c (.int .u64 0))])
  (.seq (.seq (io [em 9 t0, .o 10 (.len t9), em 11 (ci 0)])
  (.block 0 (.loop (.seq (io [eb 12 .lss t11 t10])
  (.seq (.cond t12
  .skip
  (.exit 0))
  (.seq (.block 1 (.seq (io [es 13 1 t9 t11, el 14 false 1 t13, em 7 t14])
  (.seq (io [em 8 (.c (.int .u64 0))])
  (.seq (io [em 16 t5, em 17 t7, .o 18 (.conv .u64 t17), .o 19 (.xcall 51 [t16, t18, (.c (.int .u64 0))]), em 15 t19, ex 20 0 t15, ex 21 1 t15, em 5 t20, em 8 t21])
  (.seq (io [em 22 t4, em 23 t8, eb 24 .add t22 t23, em 4 t24])
  (.seq (io [em 25 t7, eb 26 .lss t25 (ci 0)])
  (.cond t26
  (.ops [em 27 t4, eb 28 .sub t27 (.c (.int .u64 1)), em 4 t28])
  .skip)))))))
  (.ops [eb 29 .add t11 (ci 1), em 11 t29])))))))
  (.seq (.seq (io [em 30 t4, eb 31 .eql t30 (.c (.int .u64 0)), em 32 t31, .og 33 32 true (.mv t5), .og 34 32 true (.bin .leq t33 (.c (.int .u64 9223372036854775807))), .o 35 (.pick t32 t34 cf), em 36 t35, .og 37 36 false (.mv t4), .og 38 36 false (.bin .eql t37 (.c (.int .u64 18446744073709551615))), .og 39 36 false (.mv t38), .og 40 39 true (.mv t5), .og 41 39 true (.bin .geq t40 (.c (.int .u64 9223372036854775808))), .og 42 36 false (.pick t39 t41 cf), .o 43 (.pick t36 ct t42)])
  (.cond t43
  (.seq (io [em 44 t5, .o 45 (.conv .i64 t44), em 2 t45, em 3 ct])
  .ret)
  .skip))
  (.seq (io [em 2 (ci 0), em 3 cf])
  .ret)))))
theorem hc_arrears_money_Sum_int64_ : compF Try.prog 46 Try.f58 = some (ic_arrears_money_Sum_int64_, [.t 2, .t 3]) := by kernel_rfl

theorem fn_r1_MulDiv : Try.prog.funcs[r1_MulDiv]? = some Try.f59 := Try.func59
theorem nt_r1_MulDiv : Try.f59.ntmps = 61 := Try.ntmps59
def ic_r1_MulDiv : IC := (.seq (io [em 6 (ci 0), em 7 cf])
  (.seq (.seq (io [em 13 t2, eb 14 .eql t13 (ci 0)])
  (.cond t14
  (.seq (io [em 6 (ci 0), em 7 cf])
  .ret)
  .skip))
  (.seq (io [em 15 t2, ec 16 70 [t15], em 8 t16])
  (.seq (io [em 18 t0, ec 19 70 [t18], ec 20 73 [t19], em 21 t1, ec 22 70 [t21], ec 23 73 [t22], ec 24 72 [t20, t23], em 25 t8, ec 26 71 [t24, t25], em 17 t26, ex 27 0 t17, ex 28 1 t17, em 9 t27, em 10 t28])
  (.seq (io [em 29 t8, em 30 t10, eb 31 .sub t29 t30, em 11 t31])
  (.seq (.seq (io [em 32 t10, em 33 t11, eb 34 .gtr t32 t33, em 35 t34, .og 36 35 false (.mv t10), .og 37 35 false (.mv t11), .og 38 35 false (.bin .eql t36 t37), .og 39 35 false (.mv t38), .og 40 39 true (.mv t9), .og 41 39 true (.ixs 1 t40 (ci 0)), .og 42 39 true (.ld false 1 t41), .og 43 39 true (.bin .eql t42 (ci 1)), .og 44 35 false (.pick t39 t43 cf), .o 45 (.pick t35 ct t44)])
  (.cond t45
  (.ops [em 46 t9, ec 47 74 [t46], em 9 t47])
  .skip))
  (.seq (io [em 48 t0, eb 49 .lss t48 (ci 0), em 50 t1, eb 51 .lss t50 (ci 0), .o 52 (.eqv true t49 t51), em 12 t52])
  (.seq (io [em 53 t12, em 54 t2, eb 55 .lss t54 (ci 0), .o 56 (.eqv true t53 t55), em 57 t9, ec 58 75 [t56, t57], ex 59 0 t58, ex 60 1 t58, em 6 t59, em 7 t60])
  .ret))))))))
theorem hc_r1_MulDiv : compF Try.prog 61 Try.f59 = some (ic_r1_MulDiv, [.t 6, .t 7]) := by kernel_rfl

theorem fn_r1_whole : Try.prog.funcs[r1_whole]? = some Try.f60 := Try.func60
theorem nt_r1_whole : Try.f60.ntmps = 43 := Try.ntmps60
def ic_r1_whole : IC := (.seq (io [em 4 (ci 0), em 5 cf])
  (.seq (.seq (io [em 9 t0, eb 10 .lss t9 (ci 0), em 11 t10, .og 12 11 false (.mv t1), .og 13 11 false (.len t12), .og 14 11 false (.bin .eql t13 (ci 0)), .o 15 (.pick t11 ct t14), em 16 t15, .og 17 16 false (.mv t1), .og 18 16 false (.len t17), .og 19 16 false (.bin .gtr t18 (ci 1000)), .o 20 (.pick t16 ct t19)])
  (.cond t20
  (.seq (io [em 4 (ci 0), em 5 cf])
  .ret)
  .skip))
  (.seq (.seq (io [em 6 (ci 0)])
  (.block 0 (.loop (.seq (.seq (io [em 21 t6, em 22 t1, .o 23 (.len t22), eb 24 .lss t21 t23])
  (.cond t24
  .skip
  (.exit 0)))
  (.seq (.block 1 (.seq (io [em 27 t1, em 28 t6, es 29 1 t27 t28, el 30 false 1 t29, eb 31 .lss t30 (ci 0)])
  (.cond t31
  (.seq (io [em 4 (ci 0), em 5 cf])
  .ret)
  .skip)))
  (.ops [em 25 t6, eb 26 .add t25 (ci 1), em 6 t26]))))))
  (.seq (io [em 33 t1, ec 34 38 [t33], em 32 t34, ex 35 0 t32, ex 36 1 t32, em 7 t35, em 8 t36])
  (.seq (io [em 37 t7, em 38 t8, em 39 t38, .og 40 39 true (.mv t7), .og 41 39 true (.bin .gtr t40 (ci 0)), .o 42 (.pick t39 t41 cf), em 4 t37, em 5 t42])
  .ret)))))
theorem hc_r1_whole : compF Try.prog 43 Try.f60 = some (ic_r1_whole, [.t 4, .t 5]) := by kernel_rfl

theorem fn_r1_MulDivFloor : Try.prog.funcs[r1_MulDivFloor]? = some Try.f61 := Try.func61
theorem nt_r1_MulDivFloor : Try.f61.ntmps = 57 := Try.ntmps61
def ic_r1_MulDivFloor : IC := (.seq (io [em 6 (ci 0), em 7 (ci 0), em 8 cf])
  (.seq (.seq (io [em 15 t2, eb 16 .leq t15 (ci 0)])
  (.cond t16
  (.seq (io [em 6 (ci 0), em 7 (ci 0), em 8 cf])
  .ret)
  .skip))
  (.seq (io [em 17 t2, ec 18 70 [t17], em 9 t18])
  (.seq (io [em 20 t0, ec 21 70 [t20], ec 22 73 [t21], em 23 t1, ec 24 70 [t23], ec 25 73 [t24], ec 26 72 [t22, t25], em 27 t9, ec 28 71 [t26, t27], em 19 t28, ex 29 0 t19, ex 30 1 t19, em 10 t29, em 11 t30])
  (.seq (io [em 31 t0, eb 32 .lss t31 (ci 0), em 33 t1, eb 34 .lss t33 (ci 0), .o 35 (.eqv true t32 t34), em 12 t35])
  (.seq (.seq (io [em 36 t12, em 37 t36, .og 38 37 true (.mv t11), .og 39 37 true (.bin .gtr t38 (.c (.int .u64 0))), .o 40 (.pick t37 t39 cf)])
  (.cond t40
  (.seq (io [em 41 t10, ec 42 74 [t41], em 10 t42])
  (.ops [em 43 t9, em 44 t11, eb 45 .sub t43 t44, em 11 t45]))
  .skip))
  (.seq (io [em 47 t12, em 48 t10, ec 49 75 [t47, t48], em 46 t49, ex 50 0 t46, ex 51 1 t46, em 13 t50, em 14 t51])
  (.seq (.seq (io [em 52 t14, .o 53 (.un .not t52)])
  (.cond t53
  (.seq (io [em 6 (ci 0), em 7 (ci 0), em 8 cf])
  .ret)
  .skip))
  (.seq (io [em 54 t13, em 55 t11, .o 56 (.conv .i64 t55), em 6 t54, em 7 t56, em 8 ct])
  .ret)))))))))
theorem hc_r1_MulDivFloor : compF Try.prog 57 Try.f61 = some (ic_r1_MulDivFloor, [.t 6, .t 7, .t 8]) := by kernel_rfl

theorem fn_remit_columns_c1 : Try.prog.funcs[remit_columns_c1]? = some Try.f62 := Try.func62
theorem nt_remit_columns_c1 : Try.f62.ntmps = 6 := Try.ntmps62
def ic_remit_columns_c1 : IC := (.seq (io [em 2 (.c (.pointer none))])
  (.seq (io [em 3 t0, .o 4 (.nck t3), ef 5 1 1 t4, em 2 t5])
  .ret))
theorem hc_remit_columns_c1 : compF Try.prog 6 Try.f62 = some (ic_remit_columns_c1, [.t 2]) := by kernel_rfl

theorem fn_remit_columns_c2 : Try.prog.funcs[remit_columns_c2]? = some Try.f63 := Try.func63
theorem nt_remit_columns_c2 : Try.f63.ntmps = 6 := Try.ntmps63
def ic_remit_columns_c2 : IC := (.seq (io [em 2 (.c (.pointer none))])
  (.seq (io [em 3 t0, .o 4 (.nck t3), ef 5 2 2 t4, em 2 t5])
  .ret))
theorem hc_remit_columns_c2 : compF Try.prog 6 Try.f63 = some (ic_remit_columns_c2, [.t 2]) := by kernel_rfl

theorem fn_money_MulDiv : Try.prog.funcs[money_MulDiv]? = some Try.f64 := Try.func64
theorem nt_money_MulDiv : Try.f64.ntmps = 72 := Try.ntmps64
def ic_money_MulDiv : IC := (.seq (io [em 6 (ci 0), em 7 cf])
  (.seq (io [em 14 t2, ec 15 67 [t14], em 8 t15])
  (.seq (io [em 17 t0, ec 18 67 [t17], em 19 t1, ec 20 67 [t19], ec 21 66 [t18, t20], em 16 t21, ex 22 0 t16, ex 23 1 t16, em 9 t22, em 10 t23])
  (.seq (.seq (io [em 24 t8, eb 25 .eql t24 (.c (.int .u64 0)), em 26 t25, .og 27 26 false (.mv t9), .og 28 26 false (.mv t8), .og 29 26 false (.bin .geq t27 t28), .o 30 (.pick t26 ct t29)])
  (.cond t30
  (.seq (io [em 6 (ci 0), em 7 cf])
  .ret)
  .skip))
  (.seq (io [em 32 t9, em 33 t10, em 34 t8, ec 35 68 [t32, t33, t34], em 31 t35, ex 36 0 t31, ex 37 1 t31, em 11 t36, em 12 t37])
  (.seq (.seq (io [em 38 t12, em 39 t8, em 40 t12, eb 41 .sub t39 t40, eb 42 .gtr t38 t41, em 43 t42, .og 44 43 false (.mv t12), .og 45 43 false (.mv t8), .og 46 43 false (.mv t12), .og 47 43 false (.bin .sub t45 t46), .og 48 43 false (.bin .eql t44 t47), .og 49 43 false (.mv t48), .og 50 49 true (.mv t11), .og 51 49 true (.bin .and t50 (.c (.int .u64 1))), .og 52 49 true (.bin .eql t51 (.c (.int .u64 1))), .og 53 43 false (.pick t49 t52 cf), .o 54 (.pick t43 ct t53)])
  (.cond t54
  (.seq (io [em 55 t11, eb 56 .add t55 (.c (.int .u64 1)), em 11 t56])
  (.seq (io [em 57 t11, eb 58 .eql t57 (.c (.int .u64 0))])
  (.cond t58
  (.seq (io [em 6 (ci 0), em 7 cf])
  .ret)
  .skip)))
  .skip))
  (.seq (io [em 59 t0, eb 60 .lss t59 (ci 0), em 61 t1, eb 62 .lss t61 (ci 0), .o 63 (.eqv true t60 t62), em 13 t63])
  (.seq (io [em 64 t13, em 65 t2, eb 66 .lss t65 (ci 0), .o 67 (.eqv true t64 t66), em 68 t11, ec 69 69 [t67, t68], ex 70 0 t69, ex 71 1 t69, em 6 t70, em 7 t71])
  .ret))))))))
theorem hc_money_MulDiv : compF Try.prog 72 Try.f64 = some (ic_money_MulDiv, [.t 6, .t 7]) := by kernel_rfl

theorem fn_money_weighed : Try.prog.funcs[money_weighed]? = some Try.f65 := Try.func65
theorem nt_money_weighed : Try.f65.ntmps = 42 := Try.ntmps65
def ic_money_weighed : IC := (.seq (io [em 4 (ci 0), em 5 cf])
  (.seq (.seq (io [em 10 t0, eb 11 .lss t10 (ci 0), em 12 t11, .og 13 12 false (.mv t1), .og 14 12 false (.len t13), .og 15 12 false (.bin .lss t14 (ci 1)), .o 16 (.pick t12 ct t15), em 17 t16, .og 18 17 false (.mv t1), .og 19 17 false (.len t18), .og 20 17 false (.bin .gtr t19 (ci 1000)), .o 21 (.pick t17 ct t20)])
  (.cond t21
  (.seq (io [em 4 (ci 0), em 5 cf])
  .ret)
  .skip))
  (.seq (.seq (io [em 22 t1, .o 23 (.len t22), em 24 (ci 0)])
  (.block 0 (.loop (.seq (io [eb 25 .lss t24 t23])
  (.seq (.cond t25
  .skip
  (.exit 0))
  (.seq (.block 1 (.seq (io [es 26 1 t22 t24, el 27 false 1 t26, em 7 t27])
  (.seq (io [em 28 t7, eb 29 .lss t28 (ci 0)])
  (.cond t29
  (.seq (io [em 4 (ci 0), em 5 cf])
  .ret)
  .skip))))
  (.ops [eb 30 .add t24 (ci 1), em 24 t30])))))))
  (.seq (io [em 32 t1, ec 33 58 [t32], em 31 t33, ex 34 0 t31, ex 35 1 t31, em 8 t34, em 9 t35])
  (.seq (io [em 36 t8, em 37 t9, em 38 t37, .og 39 38 true (.mv t8), .og 40 38 true (.bin .gtr t39 (ci 0)), .o 41 (.pick t38 t40 cf), em 4 t36, em 5 t41])
  .ret)))))
theorem hc_money_weighed : compF Try.prog 42 Try.f65 = some (ic_money_weighed, [.t 4, .t 5]) := by kernel_rfl

theorem fn_math_bits_Mul64 : Try.prog.funcs[math_bits_Mul64]? = some Try.f66 := Try.func66
theorem nt_math_bits_Mul64 : Try.f66.ntmps = 51 := Try.ntmps66
def ic_math_bits_Mul64 : IC := (.seq (io [em 4 (.c (.int .u64 0)), em 5 (.c (.int .u64 0))])
  (.seq (io [em 14 t0, eb 15 .and t14 (.c (.int .u64 4294967295)), em 6 t15])
  (.seq (io [em 16 t0, eb 17 .shr t16 (.c (.int .u64 32)), em 7 t17])
  (.seq (io [em 18 t1, eb 19 .and t18 (.c (.int .u64 4294967295)), em 8 t19])
  (.seq (io [em 20 t1, eb 21 .shr t20 (.c (.int .u64 32)), em 9 t21])
  (.seq (io [em 22 t6, em 23 t8, eb 24 .mul t22 t23, em 10 t24])
  (.seq (io [em 25 t7, em 26 t8, eb 27 .mul t25 t26, em 28 t10, eb 29 .shr t28 (.c (.int .u64 32)), eb 30 .add t27 t29, em 11 t30])
  (.seq (io [em 31 t11, eb 32 .and t31 (.c (.int .u64 4294967295)), em 12 t32])
  (.seq (io [em 33 t11, eb 34 .shr t33 (.c (.int .u64 32)), em 13 t34])
  (.seq (io [em 35 t12, em 36 t6, em 37 t9, eb 38 .mul t36 t37, eb 39 .add t35 t38, em 12 t39])
  (.seq (io [em 40 t7, em 41 t9, eb 42 .mul t40 t41, em 43 t13, eb 44 .add t42 t43, em 45 t12, eb 46 .shr t45 (.c (.int .u64 32)), eb 47 .add t44 t46, em 4 t47])
  (.seq (io [em 48 t0, em 49 t1, eb 50 .mul t48 t49, em 5 t50])
  .ret))))))))))))
theorem hc_math_bits_Mul64 : compF Try.prog 51 Try.f66 = some (ic_math_bits_Mul64, [.t 4, .t 5]) := by kernel_rfl

theorem fn_money_magnitude : Try.prog.funcs[money_magnitude]? = some Try.f67 := Try.func67
theorem nt_money_magnitude : Try.f67.ntmps = 10 := Try.ntmps67
def ic_money_magnitude : IC := (.seq (io [em 2 (.c (.int .u64 0))])
  (.seq (.seq (io [em 3 t0, eb 4 .lss t3 (ci 0)])
  (.cond t4
  (.seq (io [em 5 t0, .o 6 (.conv .u64 t5), .o 7 (.un .neg t6), em 2 t7])
  .ret)
  .skip))
  (.seq (io [em 8 t0, .o 9 (.conv .u64 t8), em 2 t9])
  .ret)))
theorem hc_money_magnitude : compF Try.prog 10 Try.f67 = some (ic_money_magnitude, [.t 2]) := by kernel_rfl

theorem fn_math_bits_Div64 : Try.prog.funcs[math_bits_Div64]? = some Try.f68 := Try.func68
theorem nt_math_bits_Div64 : Try.f68.ntmps = 135 := Try.ntmps68
def ic_math_bits_Div64 : IC := (.seq (io [em 6 (.c (.int .u64 0)), em 7 (.c (.int .u64 0))])
  (.seq (.seq (io [em 19 t2, eb 20 .eql t19 (.c (.int .u64 0))])
  (.cond t20
  (.ops [el 21 false 1 (.g 0), .n (.dead)])
  .skip))
  (.seq (.seq (io [em 22 t2, em 23 t0, eb 24 .leq t22 t23])
  (.cond t24
  (.ops [el 25 false 1 (.g 1), .n (.dead)])
  .skip))
  (.seq (.seq (io [em 26 t0, eb 27 .eql t26 (.c (.int .u64 0))])
  (.cond t27
  (.seq (.dops [em 28 t1, em 29 t2, eb 30 .quo t28 t29, em 31 t1, em 32 t2, eb 33 .rem t31 t32, em 6 t30, em 7 t33])
  .ret)
  .skip))
  (.seq (io [em 34 t2, ec 35 76 [t34], .o 36 (.conv .u64 t35), em 8 t36])
  (.seq (io [em 37 t2, em 38 t8, eb 39 .shl t37 t38, em 2 t39])
  (.seq (io [em 40 t2, eb 41 .shr t40 (.c (.int .u64 32)), em 9 t41])
  (.seq (io [em 42 t2, eb 43 .and t42 (.c (.int .u64 4294967295)), em 10 t43])
  (.seq (io [em 44 t0, em 45 t8, eb 46 .shl t44 t45, em 47 t1, em 48 t8, eb 49 .sub (.c (.int .u64 64)) t48, eb 50 .shr t47 t49, eb 51 .or t46 t50, em 11 t51])
  (.seq (io [em 52 t1, em 53 t8, eb 54 .shl t52 t53, em 12 t54])
  (.seq (io [em 55 t12, eb 56 .shr t55 (.c (.int .u64 32)), em 13 t56])
  (.seq (io [em 57 t12, eb 58 .and t57 (.c (.int .u64 4294967295)), em 14 t58])
  (.seq (io [em 59 t11, em 60 t9, eb 61 .quo t59 t60, em 15 t61])
  (.seq (io [em 62 t11, em 63 t15, em 64 t9, eb 65 .mul t63 t64, eb 66 .sub t62 t65, em 16 t66])
  (.seq (.block 0 (.loop (.seq (.seq (io [em 67 t15, eb 68 .geq t67 (.c (.int .u64 4294967296)), em 69 t68, .og 70 69 false (.mv t15), .og 71 69 false (.mv t10), .og 72 69 false (.bin .mul t70 t71), .og 73 69 false (.mv t16), .og 74 69 false (.bin .mul (.c (.int .u64 4294967296)) t73), .og 75 69 false (.mv t13), .og 76 69 false (.bin .add t74 t75), .og 77 69 false (.bin .gtr t72 t76), .o 78 (.pick t69 ct t77)])
  (.cond t78
  .skip
  (.exit 0)))
  (.block 1 (.seq (io [em 79 t15, eb 80 .sub t79 (.c (.int .u64 1)), em 15 t80])
  (.seq (io [em 81 t16, em 82 t9, eb 83 .add t81 t82, em 16 t83])
  (.seq (io [em 84 t16, eb 85 .geq t84 (.c (.int .u64 4294967296))])
  (.cond t85
  (.exit 0)
  .skip))))))))
  (.seq (io [em 86 t11, eb 87 .mul t86 (.c (.int .u64 4294967296)), em 88 t13, eb 89 .add t87 t88, em 90 t15, em 91 t2, eb 92 .mul t90 t91, eb 93 .sub t89 t92, em 17 t93])
  (.seq (io [em 94 t17, em 95 t9, eb 96 .quo t94 t95, em 18 t96])
  (.seq (io [em 97 t17, em 98 t18, em 99 t9, eb 100 .mul t98 t99, eb 101 .sub t97 t100, em 16 t101])
  (.seq (.block 2 (.loop (.seq (.seq (io [em 102 t18, eb 103 .geq t102 (.c (.int .u64 4294967296)), em 104 t103, .og 105 104 false (.mv t18), .og 106 104 false (.mv t10), .og 107 104 false (.bin .mul t105 t106), .og 108 104 false (.mv t16), .og 109 104 false (.bin .mul (.c (.int .u64 4294967296)) t108), .og 110 104 false (.mv t14), .og 111 104 false (.bin .add t109 t110), .og 112 104 false (.bin .gtr t107 t111), .o 113 (.pick t104 ct t112)])
  (.cond t113
  .skip
  (.exit 2)))
  (.block 3 (.seq (io [em 114 t18, eb 115 .sub t114 (.c (.int .u64 1)), em 18 t115])
  (.seq (io [em 116 t16, em 117 t9, eb 118 .add t116 t117, em 16 t118])
  (.seq (io [em 119 t16, eb 120 .geq t119 (.c (.int .u64 4294967296))])
  (.cond t120
  (.exit 2)
  .skip))))))))
  (.seq (io [em 121 t15, eb 122 .mul t121 (.c (.int .u64 4294967296)), em 123 t18, eb 124 .add t122 t123, em 125 t17, eb 126 .mul t125 (.c (.int .u64 4294967296)), em 127 t14, eb 128 .add t126 t127, em 129 t18, em 130 t2, eb 131 .mul t129 t130, eb 132 .sub t128 t131, em 133 t8, eb 134 .shr t132 t133, em 6 t124, em 7 t134])
  .ret))))))))))))))))))))
theorem hc_math_bits_Div64 : compF Try.prog 135 Try.f68 = some (ic_math_bits_Div64, [.t 6, .t 7]) := by kernel_rfl

theorem fn_money_withSign : Try.prog.funcs[money_withSign]? = some Try.f69 := Try.func69
theorem nt_money_withSign : Try.f69.ntmps = 16 := Try.ntmps69
def ic_money_withSign : IC := (.seq (io [em 4 (ci 0), em 5 cf])
  (.seq (.seq (io [em 6 t0])
  (.cond t6
  (.seq (.seq (io [em 7 t1, eb 8 .gtr t7 (.c (.int .u64 9223372036854775808))])
  (.cond t8
  (.seq (io [em 4 (ci 0), em 5 cf])
  .ret)
  .skip))
  (.seq (io [em 9 t1, .o 10 (.un .neg t9), .o 11 (.conv .i64 t10), em 4 t11, em 5 ct])
  .ret))
  .skip))
  (.seq (.seq (io [em 12 t1, eb 13 .gtr t12 (.c (.int .u64 9223372036854775807))])
  (.cond t13
  (.seq (io [em 4 (ci 0), em 5 cf])
  .ret)
  .skip))
  (.seq (io [em 14 t1, .o 15 (.conv .i64 t14), em 4 t15, em 5 ct])
  .ret))))
theorem hc_money_withSign : compF Try.prog 16 Try.f69 = some (ic_money_withSign, [.t 4, .t 5]) := by kernel_rfl

theorem fn_r1_size : Try.prog.funcs[r1_size]? = some Try.f70 := Try.func70
theorem nt_r1_size : Try.f70.ntmps = 12 := Try.ntmps70
def ic_r1_size : IC := (.seq (io [em 2 (.c (.int .u64 0))])
  (.seq (.seq (io [em 3 t0, eb 4 .lss t3 (ci 0)])
  (.cond t4
  (.seq (io [em 5 t0, eb 6 .add t5 (ci 1), .o 7 (.un .neg t6), .o 8 (.conv .u64 t7), eb 9 .add t8 (.c (.int .u64 1)), em 2 t9])
  .ret)
  .skip))
  (.seq (io [em 10 t0, .o 11 (.conv .u64 t10), em 2 t11])
  .ret)))
theorem hc_r1_size : compF Try.prog 12 Try.f70 = some (ic_r1_size, [.t 2]) := by kernel_rfl

theorem fn_r1_over : Try.prog.funcs[r1_over]? = some Try.f71 := Try.func71
theorem nt_r1_over : Try.f71.ntmps = 45 := Try.ntmps71
def ic_r1_over : IC := (.seq (io [em 4 (.c (.slice none 0 0)), em 5 (.c (.int .u64 0))])
  (.seq (io [em 6 (.c (.slice none 0 0))])
  (.seq (.seq (io [em 7 (ci 0)])
  (.block 0 (.loop (.seq (.seq (io [em 10 t7, em 11 t0, .o 12 (.len t11), eb 13 .lss t10 t12])
  (.cond t13
  .skip
  (.exit 0)))
  (.seq (.block 1 (.ops [em 16 t6, .o 17 (.bsl 1 3 zi [(0, 0, 1, (ci 0))]), .o 18 (.app 1 8 3 t16 t17), em 6 t18]))
  (.ops [em 14 t7, eb 15 .add t14 (ci 1), em 7 t15]))))))
  (.seq (io [em 8 (.c (.int .u64 0))])
  (.seq (.seq (io [em 19 t0, .o 20 (.len t19), eb 21 .sub t20 (ci 1), em 9 t21])
  (.block 2 (.loop (.seq (.seq (io [em 22 t9, eb 23 .geq t22 (ci 0)])
  (.cond t23
  .skip
  (.exit 2)))
  (.seq (.block 3 (.seq (io [em 26 t8, eb 27 .mul (.c (.int .u64 2)) t26, em 28 t0, em 29 t9, es 30 1 t28 t29, el 31 false 1 t30, .o 32 (.conv .u64 t31), eb 33 .add t27 t32, em 8 t33])
  (.seq (io [em 34 t8, em 35 t1, eb 36 .geq t34 t35])
  (.cond t36
  (.seq (io [em 37 t8, em 38 t1, eb 39 .sub t37 t38, em 8 t39])
  (.ops [em 40 t6, em 41 t9, es 42 1 t40 t41, .n (.sto 1 t42 (ci 1))]))
  .skip))))
  (.ops [em 24 t9, eb 25 .sub t24 (ci 1), em 9 t25]))))))
  (.seq (io [em 43 t6, em 44 t8, em 4 t43, em 5 t44])
  .ret))))))
theorem hc_r1_over : compF Try.prog 45 Try.f71 = some (ic_r1_over, [.t 4, .t 5]) := by kernel_rfl

theorem fn_r1_times : Try.prog.funcs[r1_times]? = some Try.f72 := Try.func72
theorem nt_r1_times : Try.f72.ntmps = 70 := Try.ntmps72
def ic_r1_times : IC := (.seq (io [em 4 (.c (.slice none 0 0))])
  (.seq (io [em 5 (.c (.slice none 0 0))])
  (.seq (.seq (io [em 6 (ci 0)])
  (.block 0 (.loop (.seq (.seq (io [em 12 t6, eb 13 .lss t12 (ci 128)])
  (.cond t13
  .skip
  (.exit 0)))
  (.seq (.block 1 (.ops [em 16 t5, .o 17 (.bsl 1 3 zi [(0, 0, 1, (ci 0))]), .o 18 (.app 1 8 3 t16 t17), em 5 t18]))
  (.ops [em 14 t6, eb 15 .add t14 (ci 1), em 6 t15]))))))
  (.seq (.seq (io [em 7 (ci 0)])
  (.block 2 (.loop (.seq (.seq (io [em 19 t7, em 20 t0, .o 21 (.len t20), eb 22 .lss t19 t21])
  (.cond t22
  .skip
  (.exit 2)))
  (.seq (.block 3 (.seq (io [em 8 (ci 0)])
  (.block 4 (.loop (.seq (.seq (io [em 25 t8, em 26 t1, .o 27 (.len t26), eb 28 .lss t25 t27])
  (.cond t28
  .skip
  (.exit 4)))
  (.seq (.block 5 (.dops [em 31 t5, em 32 t7, em 33 t8, eb 34 .add t32 t33, em 35 t5, em 36 t7, em 37 t8, eb 38 .add t36 t37, es 39 1 t35 t38, el 40 false 1 t39, em 41 t0, em 42 t7, es 43 1 t41 t42, el 44 false 1 t43, em 45 t1, em 46 t8, es 47 1 t45 t46, el 48 false 1 t47, eb 49 .mul t44 t48, eb 50 .add t40 t49, es 51 1 t31 t34, .n (.sto 1 t51 t50)]))
  (.ops [em 29 t8, eb 30 .add t29 (ci 1), em 8 t30])))))))
  (.ops [em 23 t7, eb 24 .add t23 (ci 1), em 7 t24]))))))
  (.seq (io [em 9 (ci 0)])
  (.seq (.seq (io [em 10 (ci 0)])
  (.block 6 (.loop (.seq (.seq (io [em 52 t10, eb 53 .lss t52 (ci 128)])
  (.cond t53
  .skip
  (.exit 6)))
  (.seq (.block 7 (.seq (io [em 56 t5, em 57 t10, es 58 1 t56 t57, el 59 false 1 t58, em 60 t9, eb 61 .add t59 t60, em 11 t61])
  (.seq (io [em 62 t5, em 63 t10, em 64 t11, eb 65 .rem t64 (ci 2), es 66 1 t62 t63, .n (.sto 1 t66 t65)])
  (.ops [em 67 t11, eb 68 .quo t67 (ci 2), em 9 t68]))))
  (.ops [em 54 t10, eb 55 .add t54 (ci 1), em 10 t55]))))))
  (.seq (io [em 69 t5, em 4 t69])
  .ret)))))))
theorem hc_r1_times : compF Try.prog 70 Try.f72 = some (ic_r1_times, [.t 4]) := by kernel_rfl

theorem fn_r1_digits : Try.prog.funcs[r1_digits]? = some Try.f73 := Try.func73
theorem nt_r1_digits : Try.f73.ntmps = 18 := Try.ntmps73
def ic_r1_digits : IC := (.seq (io [em 2 (.c (.slice none 0 0))])
  (.seq (io [em 3 (.c (.slice none 0 0))])
  (.seq (.seq (io [em 4 (ci 0)])
  (.block 0 (.loop (.seq (.seq (io [em 5 t4, eb 6 .lss t5 (ci 64)])
  (.cond t6
  .skip
  (.exit 0)))
  (.seq (.block 1 (.seq (io [em 9 t3, em 10 t0, eb 11 .rem t10 (.c (.int .u64 2)), .o 12 (.conv .i64 t11), .o 13 (.bsl 1 3 zi [(0, 0, 1, t12)]), .o 14 (.app 1 8 3 t9 t13), em 3 t14])
  (.ops [em 15 t0, eb 16 .quo t15 (.c (.int .u64 2)), em 0 t16])))
  (.ops [em 7 t4, eb 8 .add t7 (ci 1), em 4 t8]))))))
  (.seq (io [em 17 t3, em 2 t17])
  .ret))))
theorem hc_r1_digits : compF Try.prog 18 Try.f73 = some (ic_r1_digits, [.t 2]) := by kernel_rfl

theorem fn_r1_more : Try.prog.funcs[r1_more]? = some Try.f74 := Try.func74
theorem nt_r1_more : Try.f74.ntmps = 27 := Try.ntmps74
def ic_r1_more : IC := (.seq (io [em 2 (.c (.slice none 0 0))])
  (.seq (io [em 3 (.c (.slice none 0 0))])
  (.seq (io [em 4 (ci 1)])
  (.seq (.seq (io [em 5 (ci 0)])
  (.block 0 (.loop (.seq (.seq (io [em 7 t5, em 8 t0, .o 9 (.len t8), eb 10 .lss t7 t9])
  (.cond t10
  .skip
  (.exit 0)))
  (.seq (.block 1 (.seq (io [em 13 t0, em 14 t5, es 15 1 t13 t14, el 16 false 1 t15, em 17 t4, eb 18 .add t16 t17, em 6 t18])
  (.seq (io [em 19 t3, em 20 t6, eb 21 .rem t20 (ci 2), .o 22 (.bsl 1 3 zi [(0, 0, 1, t21)]), .o 23 (.app 1 8 3 t19 t22), em 3 t23])
  (.ops [em 24 t6, eb 25 .quo t24 (ci 2), em 4 t25]))))
  (.ops [em 11 t5, eb 12 .add t11 (ci 1), em 5 t12]))))))
  (.seq (io [em 26 t3, em 2 t26])
  .ret)))))
theorem hc_r1_more : compF Try.prog 27 Try.f74 = some (ic_r1_more, [.t 2]) := by kernel_rfl

theorem fn_r1_signed : Try.prog.funcs[r1_signed]? = some Try.f75 := Try.func75
theorem nt_r1_signed : Try.f75.ntmps = 47 := Try.ntmps75
def ic_r1_signed : IC := (.seq (io [em 4 (ci 0), em 5 cf])
  (.seq (.seq (io [em 6 (ci 64)])
  (.block 0 (.loop (.seq (.seq (io [em 9 t6, em 10 t1, .o 11 (.len t10), eb 12 .lss t9 t11])
  (.cond t12
  .skip
  (.exit 0)))
  (.seq (.block 1 (.seq (io [em 15 t1, em 16 t6, es 17 1 t15 t16, el 18 false 1 t17, eb 19 .neq t18 (ci 0)])
  (.cond t19
  (.seq (io [em 4 (ci 0), em 5 cf])
  .ret)
  .skip)))
  (.ops [em 13 t6, eb 14 .add t13 (ci 1), em 6 t14]))))))
  (.seq (io [em 7 (.c (.int .u64 0))])
  (.seq (.seq (io [em 8 (ci 63)])
  (.block 2 (.loop (.seq (.seq (io [em 20 t8, eb 21 .geq t20 (ci 0)])
  (.cond t21
  .skip
  (.exit 2)))
  (.seq (.block 3 (.ops [em 24 t7, eb 25 .mul (.c (.int .u64 2)) t24, em 26 t1, em 27 t8, es 28 1 t26 t27, el 29 false 1 t28, .o 30 (.conv .u64 t29), eb 31 .add t25 t30, em 7 t31]))
  (.ops [em 22 t8, eb 23 .sub t22 (ci 1), em 8 t23]))))))
  (.seq (.seq (io [em 32 t0, .o 33 (.un .not t32)])
  (.cond t33
  (.seq (.seq (io [em 34 t7, eb 35 .gtr t34 (.c (.int .u64 9223372036854775807))])
  (.cond t35
  (.seq (io [em 4 (ci 0), em 5 cf])
  .ret)
  .skip))
  (.seq (io [em 36 t7, .o 37 (.conv .i64 t36), em 4 t37, em 5 ct])
  .ret))
  .skip))
  (.seq (.seq (io [em 38 t7, eb 39 .gtr t38 (.c (.int .u64 9223372036854775808))])
  (.cond t39
  (.seq (io [em 4 (ci 0), em 5 cf])
  .ret)
  .skip))
  (.seq (.seq (io [em 40 t7, eb 41 .eql t40 (.c (.int .u64 0))])
  (.cond t41
  (.seq (io [em 4 (ci 0), em 5 ct])
  .ret)
  .skip))
  (.seq (io [em 42 t7, eb 43 .sub t42 (.c (.int .u64 1)), .o 44 (.conv .i64 t43), .o 45 (.un .neg t44), eb 46 .sub t45 (ci 1), em 4 t46, em 5 ct])
  .ret))))))))
theorem hc_r1_signed : compF Try.prog 47 Try.f75 = some (ic_r1_signed, [.t 4, .t 5]) := by kernel_rfl

theorem fn_math_bits_LeadingZeros64 : Try.prog.funcs[math_bits_LeadingZeros64]? = some Try.f76 := Try.func76
theorem nt_math_bits_LeadingZeros64 : Try.f76.ntmps = 6 := Try.ntmps76
def ic_math_bits_LeadingZeros64 : IC := (.seq (io [em 2 (ci 0)])
  (.seq (io [em 3 t0, ec 4 77 [t3], eb 5 .sub (ci 64) t4, em 2 t5])
  .ret))
theorem hc_math_bits_LeadingZeros64 : compF Try.prog 6 Try.f76 = some (ic_math_bits_LeadingZeros64, [.t 2]) := by kernel_rfl

theorem fn_math_bits_Len64 : Try.prog.funcs[math_bits_Len64]? = some Try.f77 := Try.func77
theorem nt_math_bits_Len64 : Try.f77.ntmps = 25 := Try.ntmps77
def ic_math_bits_Len64 : IC := (.seq (io [em 2 (ci 0)])
  (.seq (.seq (io [em 3 t0, eb 4 .geq t3 (.c (.int .u64 4294967296))])
  (.cond t4
  (.seq (io [em 5 t0, eb 6 .shr t5 (.c (.int .u64 32)), em 0 t6])
  (.ops [em 2 (ci 32)]))
  .skip))
  (.seq (.seq (io [em 7 t0, eb 8 .geq t7 (.c (.int .u64 65536))])
  (.cond t8
  (.seq (io [em 9 t0, eb 10 .shr t9 (.c (.int .u64 16)), em 0 t10])
  (.ops [em 11 t2, eb 12 .add t11 (ci 16), em 2 t12]))
  .skip))
  (.seq (.seq (io [em 13 t0, eb 14 .geq t13 (.c (.int .u64 256))])
  (.cond t14
  (.seq (io [em 15 t0, eb 16 .shr t15 (.c (.int .u64 8)), em 0 t16])
  (.ops [em 17 t2, eb 18 .add t17 (ci 8), em 2 t18]))
  .skip))
  (.seq (io [em 19 t2, em 20 t0, .o 21 (.conv .u8 t20), .o 22 (.ixb (.c (.string ⟨#[0, 1, 2, 2, 3, 3, 3, 3, 4, 4, 4, 4, 4, 4, 4, 4, 5, 5, 5, 5, 5, 5, 5, 5, 5, 5, 5, 5, 5, 5, 5, 5, 6, 6, 6, 6, 6, 6, 6, 6, 6, 6, 6, 6, 6, 6, 6, 6, 6, 6, 6, 6, 6, 6, 6, 6, 6, 6, 6, 6, 6, 6, 6, 6, 7, 7, 7, 7, 7, 7, 7, 7, 7, 7, 7, 7, 7, 7, 7, 7, 7, 7, 7, 7, 7, 7, 7, 7, 7, 7, 7, 7, 7, 7, 7, 7, 7, 7, 7, 7, 7, 7, 7, 7, 7, 7, 7, 7, 7, 7, 7, 7, 7, 7, 7, 7, 7, 7, 7, 7, 7, 7, 7, 7, 7, 7, 7, 7, 8, 8, 8, 8, 8, 8, 8, 8, 8, 8, 8, 8, 8, 8, 8, 8, 8, 8, 8, 8, 8, 8, 8, 8, 8, 8, 8, 8, 8, 8, 8, 8, 8, 8, 8, 8, 8, 8, 8, 8, 8, 8, 8, 8, 8, 8, 8, 8, 8, 8, 8, 8, 8, 8, 8, 8, 8, 8, 8, 8, 8, 8, 8, 8, 8, 8, 8, 8, 8, 8, 8, 8, 8, 8, 8, 8, 8, 8, 8, 8, 8, 8, 8, 8, 8, 8, 8, 8, 8, 8, 8, 8, 8, 8, 8, 8, 8, 8, 8, 8, 8, 8, 8, 8, 8, 8, 8, 8, 8, 8, 8, 8, 8, 8, 8, 8, 8, 8, 8, 8, 8, 8, 8, 8, 8, 8, 8, 8]⟩)) t21), .o 23 (.conv .i64 t22), eb 24 .add t19 t23, em 2 t24])
  .ret)))))
theorem hc_math_bits_Len64 : compF Try.prog 25 Try.f77 = some (ic_math_bits_Len64, [.t 2]) := by kernel_rfl

end Go.Proofs.Ytjkmmcbfcglkdaa
