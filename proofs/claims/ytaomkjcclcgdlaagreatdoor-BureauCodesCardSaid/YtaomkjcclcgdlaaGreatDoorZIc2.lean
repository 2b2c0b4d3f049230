/- The given functions as the walk reads them, continued. No condition. -/
import Derived.Test.YtaomkjcclcgdlaaGreatDoorZIc
set_option linter.all false
namespace Go.Proofs.YtaomkjcclcgdlaaGreatDoor
open Go Ar
set_option linter.unusedVariables false
set_option maxRecDepth 100000

theorem fn_r14_Return : Tryz.prog.funcs[r14_Return]? = some Tryz.f88 := Tryz.func88
theorem nt_r14_Return : Tryz.f88.ntmps = 63 := Tryz.ntmps88
def ic_r14_Return : IC := (.seq (io [.o 2 (.box t0), .o 3 (.box t1), .o 4 (.alloc (.st (.cons (.st (zc (.cons (.st (zc (zc (zc (zc (zc (zc .nil))))))) (.cons zs (.cons (.st (.cons (.arr 12 1 fun _ => zi) .nil)) (.cons (.st (zc (zf (zc (zc (zc (zc (zc (zc (zc (zc (zc (zc (zc (zc (zc .nil)))))))))))))))) (zc (zc (zc (.cons (.st (zc (zc (zc (zc (zc .nil)))))) (zf (zc (zc .nil))))))))))))) (.cons (.st (zc (zc (zc (zc (zc .nil)))))) (.cons zs (zc .nil))))))])
  (.seq (io [el 8 true 18 t2, el 9 true 46 t3, ec 10 78 [t8, t9], .o 5 (.alloc (.st (.cons (.st (zc (zc (zc (zc (zc (zc (zc (zc (zc (zc (zc (zc (zc (zc (zc (zc (zc (.cons zs .nil))))))))))))))))))) (.cons (.st (zc (.cons (.st (zc (zc (zc (zc (zc (zc .nil))))))) (.cons zs (.cons (.st (.cons (.arr 12 1 fun _ => zi) .nil)) (.cons (.st (zc (zf (zc (zc (zc (zc (zc (zc (zc (zc (zc (zc (zc (zc (zc .nil)))))))))))))))) (zc (zc (zc (.cons (.st (zc (zc (zc (zc (zc .nil)))))) (zf (zc (zc .nil))))))))))))) (.cons (.st (zc (zc (zc (zc (zc .nil)))))) (.cons zs (zc .nil))))))), .n (.sto 71 t5 t10)])
  (.seq (.dops [el 11 true 71 t5, el 12 true 46 t3, ec 13 115 [t12], ec 14 79 [t11, t13, (ci 130)], .n (.sto 71 t5 t14)])
  (.seq (io [el 15 true 71 t5, ef 16 9 43 t3, el 17 false 1 t16, .o 18 (.un .not t17), ec 19 79 [t15, t18, (ci 142)], .n (.sto 71 t5 t19)])
  (.seq (io [ef 20 8 38 t3, el 21 true 5 t20, .o 6 (.alloc (.st (zc (zc (zc (zc (zc .nil))))))), .n (.sto 5 t6 t21)])
  (.seq (io [ef 22 0 0 t6, el 23 false 1 t22, ef 24 1 1 t6, el 25 false 1 t24, eb 26 .add t23 t25, ef 27 2 2 t6, el 28 false 1 t27, eb 29 .add t26 t28, ef 30 3 3 t6, el 31 false 1 t30, eb 32 .add t29 t31, ef 33 4 4 t6, el 34 false 1 t33, eb 35 .add t32 t34, em 7 t35])
  (.seq (.dops [el 36 true 71 t5, el 37 true 5 t6, ec 38 121 [t37], ec 39 83 [t36, t38], .n (.sto 71 t5 t39)])
  (.seq (io [ef 40 1 18 t5, ef 41 7 37 t40, el 42 false 1 t41, ef 43 1 1 t6, el 44 false 1 t43, eb 45 .sub t42 t44, ef 46 2 2 t6, el 47 false 1 t46, eb 48 .sub t45 t47, ef 49 1 18 t5, ef 50 7 37 t49, .n (.sto 1 t50 t48)])
  (.seq (io [el 51 true 5 t6, ef 52 2 64 t5, .n (.sto 5 t52 t51)])
  (.seq (io [el 53 true 71 t5, em 54 t7, .o 55 (.build (.st (zc (zc (zc (zc .nil))))) [(0, 0, 1, (ci 3)), (3, 3, 1, t54)]), ec 56 116 [t53, t55], .n (.sto 71 t5 t56)])
  (.seq (.dops [el 57 true 71 t5, em 58 t7, ec 59 123 [t57, (ci 9), t58], ec 60 122 [t59], el 61 true 46 t3, ec 62 85 [t60, t61], .n (.sto 53 t4 t62)])
  .ret)))))))))))
theorem hc_r14_Return : compF Tryz.prog 63 Tryz.f88 = some (ic_r14_Return, [.c 4 true 53]) := by kernel_rfl

theorem fn_r14_Refund : Tryz.prog.funcs[r14_Refund]? = some Tryz.f89 := Tryz.func89
theorem nt_r14_Refund : Tryz.f89.ntmps = 27 := Tryz.ntmps89
def ic_r14_Refund : IC := (.seq (io [.o 3 (.box t0), .o 4 (.box t1), .o 6 (.alloc (.st (.cons (.st (zc (.cons (.st (zc (zc (zc (zc (zc (zc .nil))))))) (.cons zs (.cons (.st (.cons (.arr 12 1 fun _ => zi) .nil)) (.cons (.st (zc (zf (zc (zc (zc (zc (zc (zc (zc (zc (zc (zc (zc (zc (zc .nil)))))))))))))))) (zc (zc (zc (.cons (.st (zc (zc (zc (zc (zc .nil)))))) (zf (zc (zc .nil))))))))))))) (.cons (.st (zc (zc (zc (zc (zc .nil)))))) (.cons zs (zc .nil))))))])
  (.seq (io [el 8 true 18 t3, el 9 true 46 t4, ec 10 78 [t8, t9], .o 7 (.alloc (.st (.cons (.st (zc (zc (zc (zc (zc (zc (zc (zc (zc (zc (zc (zc (zc (zc (zc (zc (zc (.cons zs .nil))))))))))))))))))) (.cons (.st (zc (.cons (.st (zc (zc (zc (zc (zc (zc .nil))))))) (.cons zs (.cons (.st (.cons (.arr 12 1 fun _ => zi) .nil)) (.cons (.st (zc (zf (zc (zc (zc (zc (zc (zc (zc (zc (zc (zc (zc (zc (zc .nil)))))))))))))))) (zc (zc (zc (.cons (.st (zc (zc (zc (zc (zc .nil)))))) (zf (zc (zc .nil))))))))))))) (.cons (.st (zc (zc (zc (zc (zc .nil)))))) (.cons zs (zc .nil))))))), .n (.sto 71 t7 t10)])
  (.seq (io [el 11 true 71 t7, em 12 t2, eb 13 .lss t12 (ci 1), ec 14 79 [t11, t13, (ci 4)], .n (.sto 71 t7 t14)])
  (.seq (.dops [el 15 true 71 t7, em 16 t2, el 17 true 46 t4, ec 18 45 [t17, (ci 4)], eb 19 .gtr t16 t18, ec 20 79 [t15, t19, (ci 143)], .n (.sto 71 t7 t20)])
  (.seq (.dops [el 21 true 71 t7, em 22 t2, ec 23 84 [(.c (.slice none 0 0)), (ci 4), (ci 0), t22], ec 24 83 [t21, t23], el 25 true 46 t4, ec 26 85 [t24, t25], .n (.sto 53 t6 t26)])
  .ret)))))
theorem hc_r14_Refund : compF Tryz.prog 27 Tryz.f89 = some (ic_r14_Refund, [.c 6 true 53]) := by kernel_rfl

theorem fn_r14_Waive : Tryz.prog.funcs[r14_Waive]? = some Tryz.f90 := Tryz.func90
theorem nt_r14_Waive : Tryz.f90.ntmps = 33 := Tryz.ntmps90
def ic_r14_Waive : IC := (.seq (io [.o 3 (.box t0), .o 4 (.box t1), .o 6 (.alloc (.st (.cons (.st (zc (.cons (.st (zc (zc (zc (zc (zc (zc .nil))))))) (.cons zs (.cons (.st (.cons (.arr 12 1 fun _ => zi) .nil)) (.cons (.st (zc (zf (zc (zc (zc (zc (zc (zc (zc (zc (zc (zc (zc (zc (zc .nil)))))))))))))))) (zc (zc (zc (.cons (.st (zc (zc (zc (zc (zc .nil)))))) (zf (zc (zc .nil))))))))))))) (.cons (.st (zc (zc (zc (zc (zc .nil)))))) (.cons zs (zc .nil))))))])
  (.seq (io [el 8 true 18 t3, el 9 true 46 t4, ec 10 78 [t8, t9], .o 7 (.alloc (.st (.cons (.st (zc (zc (zc (zc (zc (zc (zc (zc (zc (zc (zc (zc (zc (zc (zc (zc (zc (.cons zs .nil))))))))))))))))))) (.cons (.st (zc (.cons (.st (zc (zc (zc (zc (zc (zc .nil))))))) (.cons zs (.cons (.st (.cons (.arr 12 1 fun _ => zi) .nil)) (.cons (.st (zc (zf (zc (zc (zc (zc (zc (zc (zc (zc (zc (zc (zc (zc (zc .nil)))))))))))))))) (zc (zc (zc (.cons (.st (zc (zc (zc (zc (zc .nil)))))) (zf (zc (zc .nil))))))))))))) (.cons (.st (zc (zc (zc (zc (zc .nil)))))) (.cons zs (zc .nil))))))), .n (.sto 71 t7 t10)])
  (.seq (io [el 11 true 71 t7, em 12 t2, eb 13 .lss t12 (ci 1), ec 14 79 [t11, t13, (ci 4)], .n (.sto 71 t7 t14)])
  (.seq (.dops [el 15 true 71 t7, el 16 true 46 t4, ec 17 115 [t16], ec 18 79 [t15, t17, (ci 130)], .n (.sto 71 t7 t18)])
  (.seq (.dops [el 19 true 71 t7, em 20 t2, el 21 true 46 t4, ec 22 45 [t21, (ci 3)], eb 23 .gtr t20 t22, ec 24 79 [t19, t23, (ci 143)], .n (.sto 71 t7 t24)])
  (.seq (.dops [el 25 true 71 t7, em 26 t2, ec 27 84 [(.c (.slice none 0 0)), (ci 11), (ci 3), t26], ec 28 83 [t25, t27], .n (.sto 71 t7 t28)])
  (.seq (.dops [el 29 true 71 t7, ec 30 120 [t29], el 31 true 46 t4, ec 32 85 [t30, t31], .n (.sto 53 t6 t32)])
  .ret)))))))
theorem hc_r14_Waive : compF Tryz.prog 33 Tryz.f90 = some (ic_r14_Waive, [.c 6 true 53]) := by kernel_rfl

theorem fn_r14_Promise : Tryz.prog.funcs[r14_Promise]? = some Tryz.f91 := Tryz.func91
theorem nt_r14_Promise : Tryz.f91.ntmps = 22 := Tryz.ntmps91
def ic_r14_Promise : IC := (.seq (io [.o 4 (.box t0), .o 5 (.box t1), .o 8 (.alloc (.st (.cons (.st (zc (.cons (.st (zc (zc (zc (zc (zc (zc .nil))))))) (.cons zs (.cons (.st (.cons (.arr 12 1 fun _ => zi) .nil)) (.cons (.st (zc (zf (zc (zc (zc (zc (zc (zc (zc (zc (zc (zc (zc (zc (zc .nil)))))))))))))))) (zc (zc (zc (.cons (.st (zc (zc (zc (zc (zc .nil)))))) (zf (zc (zc .nil))))))))))))) (.cons (.st (zc (zc (zc (zc (zc .nil)))))) (.cons zs (zc .nil))))))])
  (.seq (.dops [el 10 true 18 t4, el 11 true 46 t5, ec 12 78 [t10, t11], ef 13 5 35 t5, el 14 false 1 t13, em 15 t3, em 16 t2, .o 17 (.build (.st (zc (zc (zc (zc .nil))))) [(0, 0, 1, (ci 4)), (1, 1, 1, t14), (2, 2, 1, t15), (3, 3, 1, t16)]), ec 18 116 [t12, t17], .o 9 (.alloc (.st (.cons (.st (zc (zc (zc (zc (zc (zc (zc (zc (zc (zc (zc (zc (zc (zc (zc (zc (zc (.cons zs .nil))))))))))))))))))) (.cons (.st (zc (.cons (.st (zc (zc (zc (zc (zc (zc .nil))))))) (.cons zs (.cons (.st (.cons (.arr 12 1 fun _ => zi) .nil)) (.cons (.st (zc (zf (zc (zc (zc (zc (zc (zc (zc (zc (zc (zc (zc (zc (zc .nil)))))))))))))))) (zc (zc (zc (.cons (.st (zc (zc (zc (zc (zc .nil)))))) (zf (zc (zc .nil))))))))))))) (.cons (.st (zc (zc (zc (zc (zc .nil)))))) (.cons zs (zc .nil))))))), .n (.sto 71 t9 t18)])
  (.seq (io [el 19 true 71 t9, el 20 true 46 t5, ec 21 85 [t19, t20], .n (.sto 53 t8 t21)])
  .ret)))
theorem hc_r14_Promise : compF Tryz.prog 22 Tryz.f91 = some (ic_r14_Promise, [.c 8 true 53]) := by kernel_rfl

theorem fn_r14_Restructure : Tryz.prog.funcs[r14_Restructure]? = some Tryz.f92 := Tryz.func92
theorem nt_r14_Restructure : Tryz.f92.ntmps = 104 := Tryz.ntmps92
def ic_r14_Restructure : IC := (.seq (io [.o 4 (.box t0), .o 5 (.box t1), .o 8 (.alloc (.st (.cons (.st (zc (.cons (.st (zc (zc (zc (zc (zc (zc .nil))))))) (.cons zs (.cons (.st (.cons (.arr 12 1 fun _ => zi) .nil)) (.cons (.st (zc (zf (zc (zc (zc (zc (zc (zc (zc (zc (zc (zc (zc (zc (zc .nil)))))))))))))))) (zc (zc (zc (.cons (.st (zc (zc (zc (zc (zc .nil)))))) (zf (zc (zc .nil))))))))))))) (.cons (.st (zc (zc (zc (zc (zc .nil)))))) (.cons zs (zc .nil))))))])
  (.seq (io [el 15 true 18 t4, el 16 true 46 t5, ec 17 78 [t15, t16], .o 9 (.alloc (.st (.cons (.st (zc (zc (zc (zc (zc (zc (zc (zc (zc (zc (zc (zc (zc (zc (zc (zc (zc (.cons zs .nil))))))))))))))))))) (.cons (.st (zc (.cons (.st (zc (zc (zc (zc (zc (zc .nil))))))) (.cons zs (.cons (.st (.cons (.arr 12 1 fun _ => zi) .nil)) (.cons (.st (zc (zf (zc (zc (zc (zc (zc (zc (zc (zc (zc (zc (zc (zc (zc .nil)))))))))))))))) (zc (zc (zc (.cons (.st (zc (zc (zc (zc (zc .nil)))))) (zf (zc (zc .nil))))))))))))) (.cons (.st (zc (zc (zc (zc (zc .nil)))))) (.cons zs (zc .nil))))))), .n (.sto 71 t9 t17)])
  (.seq (io [el 18 true 71 t9, em 19 t2, eb 20 .lss t19 (ci 1), em 21 t20, .og 22 21 false (.mv t2), .og 23 21 false (.bin .gtr t22 (ci 120)), .o 24 (.pick t21 ct t23), em 25 t24, .og 26 25 false (.mv t3), .og 27 25 false (.bin .lss t26 (ci 0)), .o 28 (.pick t25 ct t27), em 29 t28, .og 30 29 false (.mv t3), .og 31 29 false (.bin .gtr t30 (ci 100000)), .o 32 (.pick t29 ct t31), ec 33 79 [t18, t32, (ci 140)], .n (.sto 71 t9 t33)])
  (.seq (io [el 34 true 71 t9, .o 35 (.build (.st (zc (zc (zc (zc .nil))))) [(0, 0, 1, (ci 5))]), ec 36 116 [t34, t35], .n (.sto 71 t9 t36)])
  (.seq (io [el 37 true 46 t5, ec 38 124 [t37], .o 10 (.alloc (.st (zc (zc (zc .nil))))), .n (.sto 3 t10 t38)])
  (.seq (.dops [el 39 true 71 t9, el 40 true 3 t10, ec 41 125 [t40], eb 42 .gtr t41 (ci 10000000000000), ec 43 79 [t39, t42, (ci 3)], .n (.sto 71 t9 t43)])
  (.seq (.seq (io [ef 44 4 70 t9, el 45 false 1 t44, eb 46 .neq t45 (ci 0)])
  (.cond t46
  (.seq (io [el 47 true 71 t9, el 48 true 46 t5, ec 49 85 [t47, t48], .n (.sto 53 t8 t49)])
  .ret)
  .skip))
  (.seq (.dops [ef 50 1 1 t5, ef 51 0 0 t50, el 52 false 1 t51, el 53 true 3 t10, ec 54 125 [t53], em 55 t3, em 56 t2, ef 57 5 35 t5, el 58 false 1 t57, ef 59 1 1 t5, ef 60 5 5 t59, el 61 false 1 t60, .o 62 (.build (.st (zc (zc (zc (zc (zc (zc .nil))))))) [(0, 0, 1, t52), (1, 1, 1, t54), (2, 2, 1, t55), (3, 3, 1, t56), (4, 4, 1, t58), (5, 5, 1, t61)]), .o 11 (.alloc (.st (zc (zc (zc (zc (zc (zc .nil)))))))), .n (.sto 6 t11 t62)])
  (.seq (io [el 64 true 6 t11, ef 65 17 17 t4, el 66 false 1 t65, ec 67 81 [t64, t66], em 63 t67, ex 68 0 t63, ex 69 1 t63, em 12 t68, em 13 t69])
  (.seq (io [el 70 true 71 t9, em 71 t13, .o 72 (.un .not t71), ec 73 79 [t70, t72, (ci 141)], .n (.sto 71 t9 t73)])
  (.seq (io [em 14 (.c (.slice none 0 0))])
  (.seq (io [em 74 t14, ef 75 1 1 t10, el 76 false 1 t75, ec 77 84 [t74, (ci 1), (ci 2), t76], em 14 t77])
  (.seq (io [em 78 t14, ef 79 0 0 t10, el 80 false 1 t79, ec 81 84 [t78, (ci 1), (ci 3), t80], em 14 t81])
  (.seq (io [em 82 t14, el 83 true 46 t5, ec 84 45 [t83, (ci 5)], ec 85 84 [t82, (ci 5), (ci 7), t84], em 14 t85])
  (.seq (io [el 86 true 71 t9, em 87 t14, ec 88 83 [t86, t87], .n (.sto 71 t9 t88)])
  (.seq (io [el 89 true 6 t11, ef 90 1 18 t9, ef 91 1 1 t90, .n (.sto 6 t91 t89)])
  (.seq (io [em 92 t12, ef 93 1 18 t9, ef 94 2 7 t93, .n (.sto 1 t94 t92)])
  (.seq (io [ef 95 1 18 t9, ef 96 7 37 t95, .n (.sto 1 t96 (ci 0))])
  (.seq (.dops [el 97 true 71 t9, ec 98 122 [t97], ef 99 1 1 t11, el 100 false 1 t99, ec 101 123 [t98, (ci 7), t100], el 102 true 46 t5, ec 103 85 [t101, t102], .n (.sto 53 t8 t103)])
  .ret)))))))))))))))))))
theorem hc_r14_Restructure : compF Tryz.prog 104 Tryz.f92 = some (ic_r14_Restructure, [.c 8 true 53]) := by kernel_rfl

theorem fn_r8_Balance : Tryz.prog.funcs[r8_Balance]? = some Tryz.f93 := Tryz.func93
theorem nt_r8_Balance : Tryz.f93.ntmps = 21 := Tryz.ntmps93
def ic_r8_Balance : IC := (.seq (io [.o 2 (.box t0), em 4 (ci 0), em 5 (ci 0)])
  (.seq (.seq (io [em 7 t1, ec 8 126 [t7], .o 9 (.un .not t8)])
  (.cond t9
  (.seq (io [em 4 (ci 0), em 5 (ci 80)])
  .ret)
  .skip))
  (.seq (io [em 10 t1, ef 11 0 0 t2, .o 12 (.ixa 12 1 t11 t10), el 13 false 1 t12, em 6 t13])
  (.seq (.seq (io [em 14 t1, ec 15 127 [t14]])
  (.cond t15
  (.seq (io [em 16 t6, em 4 t16, em 5 (ci 0)])
  .ret)
  .skip))
  (.seq (.seq (io [em 17 t6, eb 18 .eql t17 (ci (-9223372036854775808))])
  (.cond t18
  (.seq (io [em 4 (ci 0), em 5 (ci 3)])
  .ret)
  .skip))
  (.seq (io [em 19 t6, .o 20 (.un .neg t19), em 4 t20, em 5 (ci 0)])
  .ret))))))
theorem hc_r8_Balance : compF Tryz.prog 21 Tryz.f93 = some (ic_r8_Balance, [.t 4, .t 5]) := by kernel_rfl

theorem fn_r10_Days : Tryz.prog.funcs[r10_Days]? = some Tryz.f94 := Tryz.func94
theorem nt_r10_Days : Tryz.f94.ntmps = 23 := Tryz.ntmps94
def ic_r10_Days : IC := (.seq (io [.o 4 (.box t1), em 6 (ci 0)])
  (.seq (io [em 10 t0, el 11 true 2 t4, ec 12 46 [t10, t11], em 9 t12, ex 13 0 t9, ex 14 1 t9, em 7 t13, em 8 t14])
  (.seq (.seq (io [em 15 t8, .o 16 (.un .not t15)])
  (.cond t16
  (.seq (io [em 6 (ci 0)])
  .ret)
  .skip))
  (.seq (io [em 17 t0, em 18 t7, es 19 4 t17 t18, el 20 true 4 t19, em 21 t2, ec 22 128 [t20, t21], em 6 t22])
  .ret))))
theorem hc_r10_Days : compF Tryz.prog 23 Tryz.f94 = some (ic_r10_Days, [.t 6]) := by kernel_rfl

theorem fn_r10_PastDue : Tryz.prog.funcs[r10_PastDue]? = some Tryz.f95 := Tryz.func95
theorem nt_r10_PastDue : Tryz.f95.ntmps = 61 := Tryz.ntmps95
def ic_r10_PastDue : IC := (.seq (io [.o 4 (.box t1), em 6 (ci 0)])
  (.seq (io [em 10 t0, ec 11 96 [t10], em 7 t11])
  (.seq (.seq (io [ef 12 1 1 t4, el 13 false 1 t12, eb 14 .leq t13 (ci 0), em 15 t14, .og 16 15 false (.mv t7), .og 17 15 false (.len t16), .og 18 15 false (.bin .eql t17 (ci 0)), .o 19 (.pick t15 ct t18)])
  (.cond t19
  (.seq (io [em 6 (ci 0)])
  .ret)
  .skip))
  (.seq (.seq (io [em 20 t7, em 21 t7, .o 22 (.len t21), eb 23 .sub t22 (ci 1), es 24 4 t20 t23, ef 25 0 0 t24, el 26 false 1 t25, em 27 t2, eb 28 .lss t26 t27])
  (.cond t28
  (.seq (io [ef 29 1 1 t4, el 30 false 1 t29, em 6 t30])
  .ret)
  .skip))
  (.seq (io [em 8 (ci 0)])
  (.seq (.block 0 (.loop (.seq (.seq (io [em 31 t8, em 32 t7, .o 33 (.len t32), eb 34 .lss t31 t33, em 35 t34, .og 36 35 true (.mv t7), .og 37 35 true (.mv t8), .og 38 35 true (.ixs 4 t36 t37), .og 39 35 true (.fa 0 0 t38), .og 40 35 true (.ld false 1 t39), .og 41 35 true (.mv t2), .og 42 35 true (.bin .lss t40 t41), .o 43 (.pick t35 t42 cf)])
  (.cond t43
  .skip
  (.exit 0)))
  (.block 1 (.ops [em 44 t8, eb 45 .add t44 (ci 1), em 8 t45])))))
  (.seq (.dops [em 46 t7, em 47 t8, ec 48 129 [t46, t47], el 49 true 2 t4, ec 50 130 [t49], eb 51 .sub t48 t50, em 9 t51])
  (.seq (.seq (io [em 52 t9, eb 53 .lss t52 (ci 0)])
  (.cond t53
  (.seq (io [em 6 (ci 0)])
  .ret)
  .skip))
  (.seq (.seq (io [em 54 t9, ef 55 1 1 t4, el 56 false 1 t55, eb 57 .gtr t54 t56])
  (.cond t57
  (.seq (io [ef 58 1 1 t4, el 59 false 1 t58, em 6 t59])
  .ret)
  .skip))
  (.seq (io [em 60 t9, em 6 t60])
  .ret))))))))))
theorem hc_r10_PastDue : compF Tryz.prog 61 Tryz.f95 = some (ic_r10_PastDue, [.t 6]) := by kernel_rfl

theorem fn_r10_rows : Tryz.prog.funcs[r10_rows]? = some Tryz.f96 := Tryz.func96
theorem nt_r10_rows : Tryz.f96.ntmps = 6 := Tryz.ntmps96
def ic_r10_rows : IC := (.seq (io [em 2 (.c (.slice none 0 0))])
  (.seq (.seq (io [em 3 t0, ec 4 131 [t3]])
  (.cond t4
  (.seq (io [em 5 t0, em 2 t5])
  .ret)
  .skip))
  (.seq (io [em 2 (.c (.slice none 0 0))])
  .ret)))
theorem hc_r10_rows : compF Tryz.prog 6 Tryz.f96 = some (ic_r10_rows, [.t 2]) := by kernel_rfl

theorem fn_r10_satisfied : Tryz.prog.funcs[r10_satisfied]? = some Tryz.f97 := Tryz.func97
theorem nt_r10_satisfied : Tryz.f97.ntmps = 40 := Tryz.ntmps97
def ic_r10_satisfied : IC := (.seq (io [.o 3 (.box t1), em 4 (ci 0)])
  (.seq (.seq (io [ef 8 1 1 t3, el 9 false 1 t8, eb 10 .leq t9 (ci 0)])
  (.cond t10
  (.seq (io [em 11 t0, .o 12 (.len t11), em 4 t12])
  .ret)
  .skip))
  (.seq (io [em 5 (ci 0)])
  (.seq (io [em 6 (ci 0)])
  (.seq (.seq (io [em 7 (ci 0)])
  (.block 0 (.loop (.seq (.seq (io [em 13 t7, eb 14 .add t13 (ci 1), em 15 t0, .o 16 (.len t15), eb 17 .lss t14 t16])
  (.cond t17
  .skip
  (.exit 0)))
  (.seq (.block 1 (.seq (.dops [em 20 t6, em 21 t0, em 22 t7, es 23 4 t21 t22, ef 24 1 1 t23, el 25 false 1 t24, eb 26 .add t20 t25, em 27 t0, em 28 t7, es 29 4 t27 t28, ef 30 2 2 t29, el 31 false 1 t30, eb 32 .add t26 t31, em 6 t32])
  (.seq (io [em 33 t6, el 34 true 2 t3, ec 35 130 [t34], eb 36 .leq t33 t35])
  (.cond t36
  (.ops [em 37 t7, eb 38 .add t37 (ci 1), em 5 t38])
  .skip))))
  (.ops [em 18 t7, eb 19 .add t18 (ci 1), em 7 t19]))))))
  (.seq (io [em 39 t5, em 4 t39])
  .ret))))))
theorem hc_r10_satisfied : compF Tryz.prog 40 Tryz.f97 = some (ic_r10_satisfied, [.t 4]) := by kernel_rfl

theorem fn_arrears_policy_between_int_1 : Tryz.prog.funcs[arrears_policy_between_int_1]? = some Tryz.f98 := Tryz.func98
theorem nt_arrears_policy_between_int_1 : Tryz.f98.ntmps = 20 := Tryz.ntmps98
def ic_arrears_policy_between_int_1 : IC := (.seq (io [.o 4 (.box t0), em 5 cf])
  (.seq (io [el 7 false 1 t1, el 8 true 18 t4, .o 9 (.calv t7 [t8]), em 6 t9])
  (.seq (io [em 10 t6, el 11 false 1 t2, el 12 true 18 t4, .o 13 (.calv t11 [t12]), eb 14 .geq t10 t13, em 15 t14, .og 16 15 true (.mv t6), .og 17 15 true (.ld false 1 t3), .og 18 15 true (.bin .leq t16 t17), .o 19 (.pick t15 t18 cf), em 5 t19])
  .ret)))
theorem hc_arrears_policy_between_int_1 : compF Tryz.prog 20 Tryz.f98 = some (ic_arrears_policy_between_int_1, [.t 5]) := by kernel_rfl

theorem fn_arrears_policy_from_int_1 : Tryz.prog.funcs[arrears_policy_from_int_1]? = some Tryz.f99 := Tryz.func99
theorem nt_arrears_policy_from_int_1 : Tryz.f99.ntmps = 5 := Tryz.ntmps99
def ic_arrears_policy_from_int_1 : IC := (.seq (io [.o 2 (.box t0), em 3 (ci 0)])
  (.seq (io [el 4 false 1 t1, em 3 t4])
  .ret))
theorem hc_arrears_policy_from_int_1 : compF Tryz.prog 5 Tryz.f99 = some (ic_arrears_policy_from_int_1, [.t 3]) := by kernel_rfl

theorem fn_arrears_policy_between_int64_1 : Tryz.prog.funcs[arrears_policy_between_int64_1]? = some Tryz.f100 := Tryz.func100
theorem nt_arrears_policy_between_int64_1 : Tryz.f100.ntmps = 20 := Tryz.ntmps100
def ic_arrears_policy_between_int64_1 : IC := (.seq (io [.o 4 (.box t0), em 5 cf])
  (.seq (io [el 7 false 1 t1, el 8 true 18 t4, .o 9 (.calv t7 [t8]), em 6 t9])
  (.seq (io [em 10 t6, el 11 false 1 t2, el 12 true 18 t4, .o 13 (.calv t11 [t12]), eb 14 .geq t10 t13, em 15 t14, .og 16 15 true (.mv t6), .og 17 15 true (.ld false 1 t3), .og 18 15 true (.bin .leq t16 t17), .o 19 (.pick t15 t18 cf), em 5 t19])
  .ret)))
theorem hc_arrears_policy_between_int64_1 : compF Tryz.prog 20 Tryz.f100 = some (ic_arrears_policy_between_int64_1, [.t 5]) := by kernel_rfl

theorem fn_arrears_policy_from_int64_1 : Tryz.prog.funcs[arrears_policy_from_int64_1]? = some Tryz.f101 := Tryz.func101
theorem nt_arrears_policy_from_int64_1 : Tryz.f101.ntmps = 5 := Tryz.ntmps101
def ic_arrears_policy_from_int64_1 : IC := (.seq (io [.o 2 (.box t0), em 3 (ci 0)])
  (.seq (io [el 4 false 1 t1, em 3 t4])
  .ret))
theorem hc_arrears_policy_from_int64_1 : compF Tryz.prog 5 Tryz.f101 = some (ic_arrears_policy_from_int64_1, [.t 3]) := by kernel_rfl

theorem fn_arrears_money_Sum_int64_ : Tryz.prog.funcs[arrears_money_Sum_int64_]? = some Tryz.f102 := Tryz.func102
theorem nt_arrears_money_Sum_int64_ : Tryz.f102.ntmps = 46 := Tryz.ntmps102
def ic_arrears_money_Sum_int64_ : IC := (.seq (io [em 2 (ci 0), em 3 cf])
  (.seq (io [em 4 (.c (.int .u64 0)), em 5 (.c (.int .u64 0))])
  (.seq (.seq (io [em 9 t0, .o 10 (.len t9), em 11 (ci 0)])
  (.block 0 (.loop (.seq (io [eb 12 .lss t11 t10])
  (.seq (.cond t12
  .skip
  (.exit 0))
  (.seq (.block 1 (.seq (io [es 13 1 t9 t11, el 14 false 1 t13, em 7 t14])
  (.seq (io [em 8 (.c (.int .u64 0))])
  (.seq (io [em 16 t5, em 17 t7, .o 18 (.conv .u64 t17), .o 19 (.xcall 132 [t16, t18, (.c (.int .u64 0))]), em 15 t19, ex 20 0 t15, ex 21 1 t15, em 5 t20, em 8 t21])
  (.seq (io [em 22 t4, em 23 t8, eb 24 .add t22 t23, em 4 t24])
  (.seq (io [em 25 t7, eb 26 .lss t25 (ci 0)])
  (.cond t26
  (.ops [em 27 t4, eb 28 .sub t27 (.c (.int .u64 1)), em 4 t28])
  .skip)))))))
  (.ops [eb 29 .add t11 (ci 1), em 11 t29])))))))
  (.seq (.seq (io [em 30 t4, eb 31 .eql t30 (.c (.int .u64 0)), em 32 t31, .og 33 32 true (.mv t5), .og 34 32 true (.bin .leq t33 (.c (.int .u64 9223372036854775807))), .o 35 (.pick t32 t34 cf), em 36 t35, .og 37 36 false (.mv t4), .og 38 36 false (.bin .eql t37 (.c (.int .u64 18446744073709551615))), .og 39 36 false (.mv t38), .og 40 39 true (.mv t5), .og 41 39 true (.bin .geq t40 (.c (.int .u64 9223372036854775808))), .og 42 36 false (.pick t39 t41 cf), .o 43 (.pick t36 ct t42)])
  (.cond t43
  (.seq (io [em 44 t5, .o 45 (.conv .i64 t44), em 2 t45, em 3 ct])
  .ret)
  .skip))
  (.seq (io [em 2 (ci 0), em 3 cf])
  .ret)))))
theorem hc_arrears_money_Sum_int64_ : compF Tryz.prog 46 Tryz.f102 = some (ic_arrears_money_Sum_int64_, [.t 2, .t 3]) := by kernel_rfl

theorem fn_internal_strconv_small : Tryz.prog.funcs[internal_strconv_small]? = some Tryz.f103 := Tryz.func103
theorem nt_internal_strconv_small : Tryz.f103.ntmps = 15 := Tryz.ntmps103
def ic_internal_strconv_small : IC := (.seq (io [em 2 (.c (.string ⟨#[]⟩))])
  (.seq (.seq (io [em 3 t0, eb 4 .lss t3 (ci 10)])
  (.cond t4
  (.seq (io [em 5 t0, em 6 t0, eb 7 .add t6 (ci 1), .o 8 (.sls (.c (.string ⟨#[48, 49, 50, 51, 52, 53, 54, 55, 56, 57, 97, 98, 99, 100, 101, 102, 103, 104, 105, 106, 107, 108, 109, 110, 111, 112, 113, 114, 115, 116, 117, 118, 119, 120, 121, 122]⟩)) t5 t7), em 2 t8])
  .ret)
  .skip))
  (.seq (io [em 9 t0, eb 10 .mul t9 (ci 2), em 11 t0, eb 12 .mul t11 (ci 2), eb 13 .add t12 (ci 2), .o 14 (.sls (.c (.string ⟨#[48, 48, 48, 49, 48, 50, 48, 51, 48, 52, 48, 53, 48, 54, 48, 55, 48, 56, 48, 57, 49, 48, 49, 49, 49, 50, 49, 51, 49, 52, 49, 53, 49, 54, 49, 55, 49, 56, 49, 57, 50, 48, 50, 49, 50, 50, 50, 51, 50, 52, 50, 53, 50, 54, 50, 55, 50, 56, 50, 57, 51, 48, 51, 49, 51, 50, 51, 51, 51, 52, 51, 53, 51, 54, 51, 55, 51, 56, 51, 57, 52, 48, 52, 49, 52, 50, 52, 51, 52, 52, 52, 53, 52, 54, 52, 55, 52, 56, 52, 57, 53, 48, 53, 49, 53, 50, 53, 51, 53, 52, 53, 53, 53, 54, 53, 55, 53, 56, 53, 57, 54, 48, 54, 49, 54, 50, 54, 51, 54, 52, 54, 53, 54, 54, 54, 55, 54, 56, 54, 57, 55, 48, 55, 49, 55, 50, 55, 51, 55, 52, 55, 53, 55, 54, 55, 55, 55, 56, 55, 57, 56, 48, 56, 49, 56, 50, 56, 51, 56, 52, 56, 53, 56, 54, 56, 55, 56, 56, 56, 57, 57, 48, 57, 49, 57, 50, 57, 51, 57, 52, 57, 53, 57, 54, 57, 55, 57, 56, 57, 57]⟩)) t10 t13), em 2 t14])
  .ret)))
theorem hc_internal_strconv_small : compF Tryz.prog 15 Tryz.f103 = some (ic_internal_strconv_small, [.t 2]) := by kernel_rfl

theorem fn_internal_strconv_numDigits : Tryz.prog.funcs[internal_strconv_numDigits]? = some Tryz.f104 := Tryz.func104
theorem nt_internal_strconv_numDigits : Tryz.f104.ntmps = 15 := Tryz.ntmps104
def ic_internal_strconv_numDigits : IC := (.seq (io [em 2 (ci 0)])
  (.seq (io [em 4 t0, ec 5 134 [t4], ec 6 133 [t5], em 3 t6])
  (.seq (io [em 7 t3, em 8 t0, em 9 t3, .o 10 (.ixa 20 1 (.g 1) t9), el 11 false 1 t10, eb 12 .geq t8 t11, ec 13 135 [t12], eb 14 .add t7 t13, em 2 t14])
  .ret)))
theorem hc_internal_strconv_numDigits : compF Tryz.prog 15 Tryz.f104 = some (ic_internal_strconv_numDigits, [.t 2]) := by kernel_rfl

theorem fn_internal_strconv_formatBase10 : Tryz.prog.funcs[internal_strconv_formatBase10]? = some Tryz.f105 := Tryz.func105
theorem nt_internal_strconv_formatBase10 : Tryz.f105.ntmps = 167 := Tryz.ntmps105
def ic_internal_strconv_formatBase10 : IC := (.seq (io [em 17 t0, .o 18 (.len t17), em 4 t18])
  (.seq (.block 0 (.loop (.seq (.seq (io [em 19 t4, eb 20 .geq t19 (ci 8)])
  (.cond t20
  .skip
  (.exit 0)))
  (.block 1 (.seq (io [em 21 t1, eb 22 .rem t21 (.c (.int .u64 100000000)), .o 23 (.conv .u32 t22), em 5 t23])
  (.seq (io [em 24 t1, eb 25 .quo t24 (.c (.int .u64 100000000)), em 1 t25])
  (.seq (io [em 26 t5, eb 27 .quo t26 (.c (.int .u32 10000)), em 28 t5, eb 29 .rem t28 (.c (.int .u32 10000)), em 6 t27, em 7 t29])
  (.seq (io [em 30 t7, eb 31 .quo t30 (.c (.int .u32 100)), eb 32 .mul t31 (.c (.int .u32 2)), em 33 t7, eb 34 .rem t33 (.c (.int .u32 100)), eb 35 .mul t34 (.c (.int .u32 2)), em 8 t32, em 9 t35])
  (.seq (io [em 36 t6, eb 37 .quo t36 (.c (.int .u32 100)), eb 38 .mul t37 (.c (.int .u32 2)), em 39 t6, eb 40 .rem t39 (.c (.int .u32 100)), eb 41 .mul t40 (.c (.int .u32 2)), em 10 t38, em 11 t41])
  (.seq (.dops [em 42 t0, em 43 t4, eb 44 .sub t43 (ci 1), em 45 t0, em 46 t4, eb 47 .sub t46 (ci 2), em 48 t9, eb 49 .add t48 (.c (.int .u32 1)), .o 50 (.ixb (.c (.string ⟨#[48, 48, 48, 49, 48, 50, 48, 51, 48, 52, 48, 53, 48, 54, 48, 55, 48, 56, 48, 57, 49, 48, 49, 49, 49, 50, 49, 51, 49, 52, 49, 53, 49, 54, 49, 55, 49, 56, 49, 57, 50, 48, 50, 49, 50, 50, 50, 51, 50, 52, 50, 53, 50, 54, 50, 55, 50, 56, 50, 57, 51, 48, 51, 49, 51, 50, 51, 51, 51, 52, 51, 53, 51, 54, 51, 55, 51, 56, 51, 57, 52, 48, 52, 49, 52, 50, 52, 51, 52, 52, 52, 53, 52, 54, 52, 55, 52, 56, 52, 57, 53, 48, 53, 49, 53, 50, 53, 51, 53, 52, 53, 53, 53, 54, 53, 55, 53, 56, 53, 57, 54, 48, 54, 49, 54, 50, 54, 51, 54, 52, 54, 53, 54, 54, 54, 55, 54, 56, 54, 57, 55, 48, 55, 49, 55, 50, 55, 51, 55, 52, 55, 53, 55, 54, 55, 55, 55, 56, 55, 57, 56, 48, 56, 49, 56, 50, 56, 51, 56, 52, 56, 53, 56, 54, 56, 55, 56, 56, 56, 57, 57, 48, 57, 49, 57, 50, 57, 51, 57, 52, 57, 53, 57, 54, 57, 55, 57, 56, 57, 57]⟩)) t49), em 51 t9, .o 52 (.ixb (.c (.string ⟨#[48, 48, 48, 49, 48, 50, 48, 51, 48, 52, 48, 53, 48, 54, 48, 55, 48, 56, 48, 57, 49, 48, 49, 49, 49, 50, 49, 51, 49, 52, 49, 53, 49, 54, 49, 55, 49, 56, 49, 57, 50, 48, 50, 49, 50, 50, 50, 51, 50, 52, 50, 53, 50, 54, 50, 55, 50, 56, 50, 57, 51, 48, 51, 49, 51, 50, 51, 51, 51, 52, 51, 53, 51, 54, 51, 55, 51, 56, 51, 57, 52, 48, 52, 49, 52, 50, 52, 51, 52, 52, 52, 53, 52, 54, 52, 55, 52, 56, 52, 57, 53, 48, 53, 49, 53, 50, 53, 51, 53, 52, 53, 53, 53, 54, 53, 55, 53, 56, 53, 57, 54, 48, 54, 49, 54, 50, 54, 51, 54, 52, 54, 53, 54, 54, 54, 55, 54, 56, 54, 57, 55, 48, 55, 49, 55, 50, 55, 51, 55, 52, 55, 53, 55, 54, 55, 55, 55, 56, 55, 57, 56, 48, 56, 49, 56, 50, 56, 51, 56, 52, 56, 53, 56, 54, 56, 55, 56, 56, 56, 57, 57, 48, 57, 49, 57, 50, 57, 51, 57, 52, 57, 53, 57, 54, 57, 55, 57, 56, 57, 57]⟩)) t51), es 53 1 t42 t44, .n (.sto 1 t53 t50), es 54 1 t45 t47, .n (.sto 1 t54 t52)])
  (.seq (.dops [em 55 t0, em 56 t4, eb 57 .sub t56 (ci 3), em 58 t0, em 59 t4, eb 60 .sub t59 (ci 4), em 61 t8, eb 62 .add t61 (.c (.int .u32 1)), .o 63 (.ixb (.c (.string ⟨#[48, 48, 48, 49, 48, 50, 48, 51, 48, 52, 48, 53, 48, 54, 48, 55, 48, 56, 48, 57, 49, 48, 49, 49, 49, 50, 49, 51, 49, 52, 49, 53, 49, 54, 49, 55, 49, 56, 49, 57, 50, 48, 50, 49, 50, 50, 50, 51, 50, 52, 50, 53, 50, 54, 50, 55, 50, 56, 50, 57, 51, 48, 51, 49, 51, 50, 51, 51, 51, 52, 51, 53, 51, 54, 51, 55, 51, 56, 51, 57, 52, 48, 52, 49, 52, 50, 52, 51, 52, 52, 52, 53, 52, 54, 52, 55, 52, 56, 52, 57, 53, 48, 53, 49, 53, 50, 53, 51, 53, 52, 53, 53, 53, 54, 53, 55, 53, 56, 53, 57, 54, 48, 54, 49, 54, 50, 54, 51, 54, 52, 54, 53, 54, 54, 54, 55, 54, 56, 54, 57, 55, 48, 55, 49, 55, 50, 55, 51, 55, 52, 55, 53, 55, 54, 55, 55, 55, 56, 55, 57, 56, 48, 56, 49, 56, 50, 56, 51, 56, 52, 56, 53, 56, 54, 56, 55, 56, 56, 56, 57, 57, 48, 57, 49, 57, 50, 57, 51, 57, 52, 57, 53, 57, 54, 57, 55, 57, 56, 57, 57]⟩)) t62), em 64 t8, .o 65 (.ixb (.c (.string ⟨#[48, 48, 48, 49, 48, 50, 48, 51, 48, 52, 48, 53, 48, 54, 48, 55, 48, 56, 48, 57, 49, 48, 49, 49, 49, 50, 49, 51, 49, 52, 49, 53, 49, 54, 49, 55, 49, 56, 49, 57, 50, 48, 50, 49, 50, 50, 50, 51, 50, 52, 50, 53, 50, 54, 50, 55, 50, 56, 50, 57, 51, 48, 51, 49, 51, 50, 51, 51, 51, 52, 51, 53, 51, 54, 51, 55, 51, 56, 51, 57, 52, 48, 52, 49, 52, 50, 52, 51, 52, 52, 52, 53, 52, 54, 52, 55, 52, 56, 52, 57, 53, 48, 53, 49, 53, 50, 53, 51, 53, 52, 53, 53, 53, 54, 53, 55, 53, 56, 53, 57, 54, 48, 54, 49, 54, 50, 54, 51, 54, 52, 54, 53, 54, 54, 54, 55, 54, 56, 54, 57, 55, 48, 55, 49, 55, 50, 55, 51, 55, 52, 55, 53, 55, 54, 55, 55, 55, 56, 55, 57, 56, 48, 56, 49, 56, 50, 56, 51, 56, 52, 56, 53, 56, 54, 56, 55, 56, 56, 56, 57, 57, 48, 57, 49, 57, 50, 57, 51, 57, 52, 57, 53, 57, 54, 57, 55, 57, 56, 57, 57]⟩)) t64), es 66 1 t55 t57, .n (.sto 1 t66 t63), es 67 1 t58 t60, .n (.sto 1 t67 t65)])
  (.seq (.dops [em 68 t0, em 69 t4, eb 70 .sub t69 (ci 5), em 71 t0, em 72 t4, eb 73 .sub t72 (ci 6), em 74 t11, eb 75 .add t74 (.c (.int .u32 1)), .o 76 (.ixb (.c (.string ⟨#[48, 48, 48, 49, 48, 50, 48, 51, 48, 52, 48, 53, 48, 54, 48, 55, 48, 56, 48, 57, 49, 48, 49, 49, 49, 50, 49, 51, 49, 52, 49, 53, 49, 54, 49, 55, 49, 56, 49, 57, 50, 48, 50, 49, 50, 50, 50, 51, 50, 52, 50, 53, 50, 54, 50, 55, 50, 56, 50, 57, 51, 48, 51, 49, 51, 50, 51, 51, 51, 52, 51, 53, 51, 54, 51, 55, 51, 56, 51, 57, 52, 48, 52, 49, 52, 50, 52, 51, 52, 52, 52, 53, 52, 54, 52, 55, 52, 56, 52, 57, 53, 48, 53, 49, 53, 50, 53, 51, 53, 52, 53, 53, 53, 54, 53, 55, 53, 56, 53, 57, 54, 48, 54, 49, 54, 50, 54, 51, 54, 52, 54, 53, 54, 54, 54, 55, 54, 56, 54, 57, 55, 48, 55, 49, 55, 50, 55, 51, 55, 52, 55, 53, 55, 54, 55, 55, 55, 56, 55, 57, 56, 48, 56, 49, 56, 50, 56, 51, 56, 52, 56, 53, 56, 54, 56, 55, 56, 56, 56, 57, 57, 48, 57, 49, 57, 50, 57, 51, 57, 52, 57, 53, 57, 54, 57, 55, 57, 56, 57, 57]⟩)) t75), em 77 t11, .o 78 (.ixb (.c (.string ⟨#[48, 48, 48, 49, 48, 50, 48, 51, 48, 52, 48, 53, 48, 54, 48, 55, 48, 56, 48, 57, 49, 48, 49, 49, 49, 50, 49, 51, 49, 52, 49, 53, 49, 54, 49, 55, 49, 56, 49, 57, 50, 48, 50, 49, 50, 50, 50, 51, 50, 52, 50, 53, 50, 54, 50, 55, 50, 56, 50, 57, 51, 48, 51, 49, 51, 50, 51, 51, 51, 52, 51, 53, 51, 54, 51, 55, 51, 56, 51, 57, 52, 48, 52, 49, 52, 50, 52, 51, 52, 52, 52, 53, 52, 54, 52, 55, 52, 56, 52, 57, 53, 48, 53, 49, 53, 50, 53, 51, 53, 52, 53, 53, 53, 54, 53, 55, 53, 56, 53, 57, 54, 48, 54, 49, 54, 50, 54, 51, 54, 52, 54, 53, 54, 54, 54, 55, 54, 56, 54, 57, 55, 48, 55, 49, 55, 50, 55, 51, 55, 52, 55, 53, 55, 54, 55, 55, 55, 56, 55, 57, 56, 48, 56, 49, 56, 50, 56, 51, 56, 52, 56, 53, 56, 54, 56, 55, 56, 56, 56, 57, 57, 48, 57, 49, 57, 50, 57, 51, 57, 52, 57, 53, 57, 54, 57, 55, 57, 56, 57, 57]⟩)) t77), es 79 1 t68 t70, .n (.sto 1 t79 t76), es 80 1 t71 t73, .n (.sto 1 t80 t78)])
  (.seq (.dops [em 81 t0, em 82 t4, eb 83 .sub t82 (ci 7), em 84 t0, em 85 t4, eb 86 .sub t85 (ci 8), em 87 t10, eb 88 .add t87 (.c (.int .u32 1)), .o 89 (.ixb (.c (.string ⟨#[48, 48, 48, 49, 48, 50, 48, 51, 48, 52, 48, 53, 48, 54, 48, 55, 48, 56, 48, 57, 49, 48, 49, 49, 49, 50, 49, 51, 49, 52, 49, 53, 49, 54, 49, 55, 49, 56, 49, 57, 50, 48, 50, 49, 50, 50, 50, 51, 50, 52, 50, 53, 50, 54, 50, 55, 50, 56, 50, 57, 51, 48, 51, 49, 51, 50, 51, 51, 51, 52, 51, 53, 51, 54, 51, 55, 51, 56, 51, 57, 52, 48, 52, 49, 52, 50, 52, 51, 52, 52, 52, 53, 52, 54, 52, 55, 52, 56, 52, 57, 53, 48, 53, 49, 53, 50, 53, 51, 53, 52, 53, 53, 53, 54, 53, 55, 53, 56, 53, 57, 54, 48, 54, 49, 54, 50, 54, 51, 54, 52, 54, 53, 54, 54, 54, 55, 54, 56, 54, 57, 55, 48, 55, 49, 55, 50, 55, 51, 55, 52, 55, 53, 55, 54, 55, 55, 55, 56, 55, 57, 56, 48, 56, 49, 56, 50, 56, 51, 56, 52, 56, 53, 56, 54, 56, 55, 56, 56, 56, 57, 57, 48, 57, 49, 57, 50, 57, 51, 57, 52, 57, 53, 57, 54, 57, 55, 57, 56, 57, 57]⟩)) t88), em 90 t10, .o 91 (.ixb (.c (.string ⟨#[48, 48, 48, 49, 48, 50, 48, 51, 48, 52, 48, 53, 48, 54, 48, 55, 48, 56, 48, 57, 49, 48, 49, 49, 49, 50, 49, 51, 49, 52, 49, 53, 49, 54, 49, 55, 49, 56, 49, 57, 50, 48, 50, 49, 50, 50, 50, 51, 50, 52, 50, 53, 50, 54, 50, 55, 50, 56, 50, 57, 51, 48, 51, 49, 51, 50, 51, 51, 51, 52, 51, 53, 51, 54, 51, 55, 51, 56, 51, 57, 52, 48, 52, 49, 52, 50, 52, 51, 52, 52, 52, 53, 52, 54, 52, 55, 52, 56, 52, 57, 53, 48, 53, 49, 53, 50, 53, 51, 53, 52, 53, 53, 53, 54, 53, 55, 53, 56, 53, 57, 54, 48, 54, 49, 54, 50, 54, 51, 54, 52, 54, 53, 54, 54, 54, 55, 54, 56, 54, 57, 55, 48, 55, 49, 55, 50, 55, 51, 55, 52, 55, 53, 55, 54, 55, 55, 55, 56, 55, 57, 56, 48, 56, 49, 56, 50, 56, 51, 56, 52, 56, 53, 56, 54, 56, 55, 56, 56, 56, 57, 57, 48, 57, 49, 57, 50, 57, 51, 57, 52, 57, 53, 57, 54, 57, 55, 57, 56, 57, 57]⟩)) t90), es 92 1 t81 t83, .n (.sto 1 t92 t89), es 93 1 t84 t86, .n (.sto 1 t93 t91)])
  (.ops [em 94 t4, eb 95 .sub t94 (ci 8), em 4 t95]))))))))))))))
  (.seq (io [em 96 t1, .o 97 (.conv .u32 t96), em 12 t97])
  (.seq (.seq (io [em 98 t4, eb 99 .geq t98 (ci 4)])
  (.cond t99
  (.seq (io [em 100 t12, eb 101 .rem t100 (.c (.int .u32 10000)), em 13 t101])
  (.seq (io [em 102 t12, eb 103 .quo t102 (.c (.int .u32 10000)), em 12 t103])
  (.seq (io [em 104 t13, eb 105 .quo t104 (.c (.int .u32 100)), eb 106 .mul t105 (.c (.int .u32 2)), em 107 t13, eb 108 .rem t107 (.c (.int .u32 100)), eb 109 .mul t108 (.c (.int .u32 2)), em 14 t106, em 15 t109])
  (.seq (.dops [em 110 t0, em 111 t4, eb 112 .sub t111 (ci 1), em 113 t0, em 114 t4, eb 115 .sub t114 (ci 2), em 116 t15, eb 117 .add t116 (.c (.int .u32 1)), .o 118 (.ixb (.c (.string ⟨#[48, 48, 48, 49, 48, 50, 48, 51, 48, 52, 48, 53, 48, 54, 48, 55, 48, 56, 48, 57, 49, 48, 49, 49, 49, 50, 49, 51, 49, 52, 49, 53, 49, 54, 49, 55, 49, 56, 49, 57, 50, 48, 50, 49, 50, 50, 50, 51, 50, 52, 50, 53, 50, 54, 50, 55, 50, 56, 50, 57, 51, 48, 51, 49, 51, 50, 51, 51, 51, 52, 51, 53, 51, 54, 51, 55, 51, 56, 51, 57, 52, 48, 52, 49, 52, 50, 52, 51, 52, 52, 52, 53, 52, 54, 52, 55, 52, 56, 52, 57, 53, 48, 53, 49, 53, 50, 53, 51, 53, 52, 53, 53, 53, 54, 53, 55, 53, 56, 53, 57, 54, 48, 54, 49, 54, 50, 54, 51, 54, 52, 54, 53, 54, 54, 54, 55, 54, 56, 54, 57, 55, 48, 55, 49, 55, 50, 55, 51, 55, 52, 55, 53, 55, 54, 55, 55, 55, 56, 55, 57, 56, 48, 56, 49, 56, 50, 56, 51, 56, 52, 56, 53, 56, 54, 56, 55, 56, 56, 56, 57, 57, 48, 57, 49, 57, 50, 57, 51, 57, 52, 57, 53, 57, 54, 57, 55, 57, 56, 57, 57]⟩)) t117), em 119 t15, .o 120 (.ixb (.c (.string ⟨#[48, 48, 48, 49, 48, 50, 48, 51, 48, 52, 48, 53, 48, 54, 48, 55, 48, 56, 48, 57, 49, 48, 49, 49, 49, 50, 49, 51, 49, 52, 49, 53, 49, 54, 49, 55, 49, 56, 49, 57, 50, 48, 50, 49, 50, 50, 50, 51, 50, 52, 50, 53, 50, 54, 50, 55, 50, 56, 50, 57, 51, 48, 51, 49, 51, 50, 51, 51, 51, 52, 51, 53, 51, 54, 51, 55, 51, 56, 51, 57, 52, 48, 52, 49, 52, 50, 52, 51, 52, 52, 52, 53, 52, 54, 52, 55, 52, 56, 52, 57, 53, 48, 53, 49, 53, 50, 53, 51, 53, 52, 53, 53, 53, 54, 53, 55, 53, 56, 53, 57, 54, 48, 54, 49, 54, 50, 54, 51, 54, 52, 54, 53, 54, 54, 54, 55, 54, 56, 54, 57, 55, 48, 55, 49, 55, 50, 55, 51, 55, 52, 55, 53, 55, 54, 55, 55, 55, 56, 55, 57, 56, 48, 56, 49, 56, 50, 56, 51, 56, 52, 56, 53, 56, 54, 56, 55, 56, 56, 56, 57, 57, 48, 57, 49, 57, 50, 57, 51, 57, 52, 57, 53, 57, 54, 57, 55, 57, 56, 57, 57]⟩)) t119), es 121 1 t110 t112, .n (.sto 1 t121 t118), es 122 1 t113 t115, .n (.sto 1 t122 t120)])
  (.seq (.dops [em 123 t0, em 124 t4, eb 125 .sub t124 (ci 3), em 126 t0, em 127 t4, eb 128 .sub t127 (ci 4), em 129 t14, eb 130 .add t129 (.c (.int .u32 1)), .o 131 (.ixb (.c (.string ⟨#[48, 48, 48, 49, 48, 50, 48, 51, 48, 52, 48, 53, 48, 54, 48, 55, 48, 56, 48, 57, 49, 48, 49, 49, 49, 50, 49, 51, 49, 52, 49, 53, 49, 54, 49, 55, 49, 56, 49, 57, 50, 48, 50, 49, 50, 50, 50, 51, 50, 52, 50, 53, 50, 54, 50, 55, 50, 56, 50, 57, 51, 48, 51, 49, 51, 50, 51, 51, 51, 52, 51, 53, 51, 54, 51, 55, 51, 56, 51, 57, 52, 48, 52, 49, 52, 50, 52, 51, 52, 52, 52, 53, 52, 54, 52, 55, 52, 56, 52, 57, 53, 48, 53, 49, 53, 50, 53, 51, 53, 52, 53, 53, 53, 54, 53, 55, 53, 56, 53, 57, 54, 48, 54, 49, 54, 50, 54, 51, 54, 52, 54, 53, 54, 54, 54, 55, 54, 56, 54, 57, 55, 48, 55, 49, 55, 50, 55, 51, 55, 52, 55, 53, 55, 54, 55, 55, 55, 56, 55, 57, 56, 48, 56, 49, 56, 50, 56, 51, 56, 52, 56, 53, 56, 54, 56, 55, 56, 56, 56, 57, 57, 48, 57, 49, 57, 50, 57, 51, 57, 52, 57, 53, 57, 54, 57, 55, 57, 56, 57, 57]⟩)) t130), em 132 t14, .o 133 (.ixb (.c (.string ⟨#[48, 48, 48, 49, 48, 50, 48, 51, 48, 52, 48, 53, 48, 54, 48, 55, 48, 56, 48, 57, 49, 48, 49, 49, 49, 50, 49, 51, 49, 52, 49, 53, 49, 54, 49, 55, 49, 56, 49, 57, 50, 48, 50, 49, 50, 50, 50, 51, 50, 52, 50, 53, 50, 54, 50, 55, 50, 56, 50, 57, 51, 48, 51, 49, 51, 50, 51, 51, 51, 52, 51, 53, 51, 54, 51, 55, 51, 56, 51, 57, 52, 48, 52, 49, 52, 50, 52, 51, 52, 52, 52, 53, 52, 54, 52, 55, 52, 56, 52, 57, 53, 48, 53, 49, 53, 50, 53, 51, 53, 52, 53, 53, 53, 54, 53, 55, 53, 56, 53, 57, 54, 48, 54, 49, 54, 50, 54, 51, 54, 52, 54, 53, 54, 54, 54, 55, 54, 56, 54, 57, 55, 48, 55, 49, 55, 50, 55, 51, 55, 52, 55, 53, 55, 54, 55, 55, 55, 56, 55, 57, 56, 48, 56, 49, 56, 50, 56, 51, 56, 52, 56, 53, 56, 54, 56, 55, 56, 56, 56, 57, 57, 48, 57, 49, 57, 50, 57, 51, 57, 52, 57, 53, 57, 54, 57, 55, 57, 56, 57, 57]⟩)) t132), es 134 1 t123 t125, .n (.sto 1 t134 t131), es 135 1 t126 t128, .n (.sto 1 t135 t133)])
  (.ops [em 136 t4, eb 137 .sub t136 (ci 4), em 4 t137]))))))
  .skip))
  (.seq (.seq (io [em 138 t4, eb 139 .geq t138 (ci 2)])
  (.cond t139
  (.seq (io [em 140 t12, eb 141 .rem t140 (.c (.int .u32 100)), eb 142 .mul t141 (.c (.int .u32 2)), em 16 t142])
  (.seq (io [em 143 t12, eb 144 .quo t143 (.c (.int .u32 100)), em 12 t144])
  (.seq (.dops [em 145 t0, em 146 t4, eb 147 .sub t146 (ci 1), em 148 t0, em 149 t4, eb 150 .sub t149 (ci 2), em 151 t16, eb 152 .add t151 (.c (.int .u32 1)), .o 153 (.ixb (.c (.string ⟨#[48, 48, 48, 49, 48, 50, 48, 51, 48, 52, 48, 53, 48, 54, 48, 55, 48, 56, 48, 57, 49, 48, 49, 49, 49, 50, 49, 51, 49, 52, 49, 53, 49, 54, 49, 55, 49, 56, 49, 57, 50, 48, 50, 49, 50, 50, 50, 51, 50, 52, 50, 53, 50, 54, 50, 55, 50, 56, 50, 57, 51, 48, 51, 49, 51, 50, 51, 51, 51, 52, 51, 53, 51, 54, 51, 55, 51, 56, 51, 57, 52, 48, 52, 49, 52, 50, 52, 51, 52, 52, 52, 53, 52, 54, 52, 55, 52, 56, 52, 57, 53, 48, 53, 49, 53, 50, 53, 51, 53, 52, 53, 53, 53, 54, 53, 55, 53, 56, 53, 57, 54, 48, 54, 49, 54, 50, 54, 51, 54, 52, 54, 53, 54, 54, 54, 55, 54, 56, 54, 57, 55, 48, 55, 49, 55, 50, 55, 51, 55, 52, 55, 53, 55, 54, 55, 55, 55, 56, 55, 57, 56, 48, 56, 49, 56, 50, 56, 51, 56, 52, 56, 53, 56, 54, 56, 55, 56, 56, 56, 57, 57, 48, 57, 49, 57, 50, 57, 51, 57, 52, 57, 53, 57, 54, 57, 55, 57, 56, 57, 57]⟩)) t152), em 154 t16, .o 155 (.ixb (.c (.string ⟨#[48, 48, 48, 49, 48, 50, 48, 51, 48, 52, 48, 53, 48, 54, 48, 55, 48, 56, 48, 57, 49, 48, 49, 49, 49, 50, 49, 51, 49, 52, 49, 53, 49, 54, 49, 55, 49, 56, 49, 57, 50, 48, 50, 49, 50, 50, 50, 51, 50, 52, 50, 53, 50, 54, 50, 55, 50, 56, 50, 57, 51, 48, 51, 49, 51, 50, 51, 51, 51, 52, 51, 53, 51, 54, 51, 55, 51, 56, 51, 57, 52, 48, 52, 49, 52, 50, 52, 51, 52, 52, 52, 53, 52, 54, 52, 55, 52, 56, 52, 57, 53, 48, 53, 49, 53, 50, 53, 51, 53, 52, 53, 53, 53, 54, 53, 55, 53, 56, 53, 57, 54, 48, 54, 49, 54, 50, 54, 51, 54, 52, 54, 53, 54, 54, 54, 55, 54, 56, 54, 57, 55, 48, 55, 49, 55, 50, 55, 51, 55, 52, 55, 53, 55, 54, 55, 55, 55, 56, 55, 57, 56, 48, 56, 49, 56, 50, 56, 51, 56, 52, 56, 53, 56, 54, 56, 55, 56, 56, 56, 57, 57, 48, 57, 49, 57, 50, 57, 51, 57, 52, 57, 53, 57, 54, 57, 55, 57, 56, 57, 57]⟩)) t154), es 156 1 t145 t147, .n (.sto 1 t156 t153), es 157 1 t148 t150, .n (.sto 1 t157 t155)])
  (.ops [em 158 t4, eb 159 .sub t158 (ci 2), em 4 t159]))))
  .skip))
  (.seq (io [em 160 t4, eb 161 .gtr t160 (ci 0)])
  (.cond t161
  (.ops [em 162 t0, em 163 t12, eb 164 .add (.c (.int .u32 48)) t163, .o 165 (.conv .u8 t164), es 166 1 t162 (ci 0), .n (.sto 1 t166 t165)])
  .skip)))))))
theorem hc_internal_strconv_formatBase10 : compF Tryz.prog 167 Tryz.f105 = some (ic_internal_strconv_formatBase10, []) := by kernel_rfl

theorem fn_internal_strconv_formatBits : Tryz.prog.funcs[internal_strconv_formatBits]? = some Tryz.f106 := Tryz.func106
theorem nt_internal_strconv_formatBits : Tryz.f106.ntmps = 102 := Tryz.ntmps106
def ic_internal_strconv_formatBits : IC := (.seq (io [em 10 (.c (.slice none 0 0)), em 11 (.c (.string ⟨#[]⟩))])
  (.seq (.seq (io [em 19 t2, eb 20 .lss t19 (ci 2), em 21 t20, .og 22 21 false (.mv t2), .og 23 21 false (.bin .eql t22 (ci 10)), .o 24 (.pick t21 ct t23), em 25 t24, .og 26 25 false (.mv t2), .og 27 25 false (.bin .gtr t26 (ci 36)), .o 28 (.pick t25 ct t27)])
  (.cond t28
  (.ops [.o 29 (.dead), .n (.dead)])
  .skip))
  (.seq (io [.o 12 (.alloc (.arr 65 1 fun _ => (.val (.int .u8 0))))])
  (.seq (io [em 13 (ci 65)])
  (.seq (.seq (io [em 30 t3])
  (.cond t30
  (.ops [em 31 t1, .o 32 (.un .neg t31), em 1 t32])
  .skip))
  (.seq (.seq (io [em 33 t2, ec 34 136 [t33]])
  (.cond t34
  (.seq (io [em 35 t2, .o 36 (.conv .u64 t35), ec 37 137 [t36], .o 38 (.conv .u64 t37), em 14 t38])
  (.seq (io [em 39 t2, .o 40 (.conv .u64 t39), em 15 t40])
  (.seq (io [em 41 t2, .o 42 (.conv .u64 t41), eb 43 .sub t42 (.c (.int .u64 1)), em 16 t43])
  (.seq (.block 0 (.loop (.seq (.seq (io [em 44 t1, em 45 t15, eb 46 .geq t44 t45])
  (.cond t46
  .skip
  (.exit 0)))
  (.block 1 (.seq (io [em 47 t13, eb 48 .sub t47 (ci 1), em 13 t48])
  (.seq (io [em 49 t13, em 50 t1, em 51 t16, eb 52 .and t50 t51, .o 53 (.ixb (.c (.string ⟨#[48, 49, 50, 51, 52, 53, 54, 55, 56, 57, 97, 98, 99, 100, 101, 102, 103, 104, 105, 106, 107, 108, 109, 110, 111, 112, 113, 114, 115, 116, 117, 118, 119, 120, 121, 122]⟩)) t52), .o 54 (.ixa 65 1 t12 t49), .n (.sto 1 t54 t53)])
  (.ops [em 55 t1, em 56 t14, eb 57 .shr t55 t56, em 1 t57])))))))
  (.seq (io [em 58 t13, eb 59 .sub t58 (ci 1), em 13 t59])
  (.ops [em 60 t13, em 61 t1, .o 62 (.ixb (.c (.string ⟨#[48, 49, 50, 51, 52, 53, 54, 55, 56, 57, 97, 98, 99, 100, 101, 102, 103, 104, 105, 106, 107, 108, 109, 110, 111, 112, 113, 114, 115, 116, 117, 118, 119, 120, 121, 122]⟩)) t61), .o 63 (.ixa 65 1 t12 t60), .n (.sto 1 t63 t62)]))))))
  (.seq (io [em 64 t2, .o 65 (.conv .u64 t64), em 17 t65])
  (.seq (.block 2 (.loop (.seq (.seq (io [em 66 t1, em 67 t17, eb 68 .geq t66 t67])
  (.cond t68
  .skip
  (.exit 2)))
  (.block 3 (.seq (io [em 69 t13, eb 70 .sub t69 (ci 1), em 13 t70])
  (.seq (io [em 71 t1, em 72 t17, eb 73 .quo t71 t72, em 18 t73])
  (.seq (io [em 74 t13, em 75 t1, em 76 t18, em 77 t17, eb 78 .mul t76 t77, eb 79 .sub t75 t78, .o 80 (.ixb (.c (.string ⟨#[48, 49, 50, 51, 52, 53, 54, 55, 56, 57, 97, 98, 99, 100, 101, 102, 103, 104, 105, 106, 107, 108, 109, 110, 111, 112, 113, 114, 115, 116, 117, 118, 119, 120, 121, 122]⟩)) t79), .o 81 (.ixa 65 1 t12 t74), .n (.sto 1 t81 t80)])
  (.ops [em 82 t18, em 1 t82]))))))))
  (.seq (io [em 83 t13, eb 84 .sub t83 (ci 1), em 13 t84])
  (.ops [em 85 t13, em 86 t1, .o 87 (.ixb (.c (.string ⟨#[48, 49, 50, 51, 52, 53, 54, 55, 56, 57, 97, 98, 99, 100, 101, 102, 103, 104, 105, 106, 107, 108, 109, 110, 111, 112, 113, 114, 115, 116, 117, 118, 119, 120, 121, 122]⟩)) t86), .o 88 (.ixa 65 1 t12 t85), .n (.sto 1 t88 t87)]))))))
  (.seq (.seq (io [em 89 t3])
  (.cond t89
  (.seq (io [em 90 t13, eb 91 .sub t90 (ci 1), em 13 t91])
  (.ops [em 92 t13, .o 93 (.ixa 65 1 t12 t92), .n (.sto 1 t93 (.c (.int .u8 45)))]))
  .skip))
  (.seq (.seq (io [em 94 t4])
  (.cond t94
  (.seq (io [em 95 t0, em 96 t13, .o 97 (.dead), .o 98 (.app 1 1 5 t95 t97), em 10 t98])
  .ret)
  .skip))
  (.seq (io [em 99 t13, .o 100 (.dead), .o 101 (.b2s t100), em 11 t101])
  .ret)))))))))
theorem hc_internal_strconv_formatBits : compF Tryz.prog 102 Tryz.f106 = some (ic_internal_strconv_formatBits, [.t 10, .t 11]) := by kernel_rfl

theorem fn_r14_copied : Tryz.prog.funcs[r14_copied]? = some Tryz.f107 := Tryz.func107
theorem nt_r14_copied : Tryz.f107.ntmps = 23 := Tryz.ntmps107
def ic_r14_copied : IC := (.seq (io [.o 1 (.box t0), .o 2 (.alloc (.st (zc (.cons (.st (zc (zc (zc (zc (zc (zc .nil))))))) (.cons zs (.cons (.st (.cons (.arr 12 1 fun _ => zi) .nil)) (.cons (.st (zc (zf (zc (zc (zc (zc (zc (zc (zc (zc (zc (zc (zc (zc (zc .nil)))))))))))))))) (zc (zc (zc (.cons (.st (zc (zc (zc (zc (zc .nil)))))) (zf (zc (zc .nil))))))))))))))])
  (.seq (io [em 3 (.c (.slice none 0 0))])
  (.seq (.seq (io [em 4 (ci 0)])
  (.block 0 (.loop (.seq (.seq (io [em 5 t4, ef 6 2 7 t1, el 7 false 1 t6, .o 8 (.len t7), eb 9 .lss t5 t8])
  (.cond t9
  .skip
  (.exit 0)))
  (.seq (.block 1 (.ops [em 12 t3, ef 13 2 7 t1, el 14 false 1 t13, em 15 t4, es 16 4 t14 t15, el 17 true 4 t16, .o 18 (.bsl 4 69 (.st (zc (zc (zc (zf .nil))))) [(0, 0, 4, t17)]), .o 19 (.app 4 32 69 t12 t18), em 3 t19]))
  (.ops [em 10 t4, eb 11 .add t10 (ci 1), em 4 t11]))))))
  (.seq (io [em 20 t3, ef 21 2 7 t1, .n (.sto 1 t21 t20)])
  (.seq (io [el 22 true 46 t1, .n (.sto 46 t2 t22)])
  .ret)))))
theorem hc_r14_copied : compF Tryz.prog 23 Tryz.f107 = some (ic_r14_copied, [.c 2 true 46]) := by kernel_rfl

theorem fn_r3_Valid : Tryz.prog.funcs[r3_Valid]? = some Tryz.f108 := Tryz.func108
theorem nt_r3_Valid : Tryz.f108.ntmps = 53 := Tryz.ntmps108
def ic_r3_Valid : IC := (.seq (io [.o 1 (.box t0), em 2 cf])
  (.seq (.seq (io [ef 3 0 0 t1, el 4 false 1 t3, eb 5 .lss t4 (ci 0), em 6 t5, .og 7 6 false (.fa 0 0 t1), .og 8 6 false (.ld false 1 t7), .og 9 6 false (.bin .gtr t8 (ci 2)), .o 10 (.pick t6 ct t9), em 11 t10, .og 12 11 false (.fa 1 1 t1), .og 13 11 false (.ld false 1 t12), .og 14 11 false (.bin .lss t13 (ci 1)), .o 15 (.pick t11 ct t14), em 16 t15, .og 17 16 false (.fa 1 1 t1), .og 18 16 false (.ld false 1 t17), .og 19 16 false (.bin .gtr t18 (ci 10000000000000)), .o 20 (.pick t16 ct t19), em 21 t20, .og 22 21 false (.fa 2 2 t1), .og 23 21 false (.ld false 1 t22), .og 24 21 false (.call 138 [t23]), .og 25 21 false (.un .not t24), .o 26 (.pick t21 ct t25)])
  (.cond t26
  (.seq (io [em 2 cf])
  .ret)
  .skip))
  (.seq (.seq (io [ef 27 3 3 t1, el 28 false 1 t27, eb 29 .lss t28 (ci 1), em 30 t29, .og 31 30 false (.fa 3 3 t1), .og 32 30 false (.ld false 1 t31), .og 33 30 false (.bin .gtr t32 (ci 120)), .o 34 (.pick t30 ct t33), em 35 t34, .og 36 35 false (.fa 4 4 t1), .og 37 35 false (.ld false 1 t36), .og 38 35 false (.bin .lss t37 (ci 1)), .o 39 (.pick t35 ct t38), em 40 t39, .og 41 40 false (.fa 4 4 t1), .og 42 40 false (.ld false 1 t41), .og 43 40 false (.bin .gtr t42 (ci 3652059)), .o 44 (.pick t40 ct t43)])
  (.cond t44
  (.seq (io [em 2 cf])
  .ret)
  .skip))
  (.seq (io [ef 45 5 5 t1, el 46 false 1 t45, eb 47 .geq t46 (ci 0), em 48 t47, .og 49 48 true (.fa 5 5 t1), .og 50 48 true (.ld false 1 t49), .og 51 48 true (.bin .leq t50 (ci 3)), .o 52 (.pick t48 t51 cf), em 2 t52])
  .ret))))
theorem hc_r3_Valid : compF Tryz.prog 53 Tryz.f108 = some (ic_r3_Valid, [.t 2]) := by kernel_rfl

theorem fn_r3_Level : Tryz.prog.funcs[r3_Level]? = some Tryz.f109 := Tryz.func109
theorem nt_r3_Level : Tryz.f109.ntmps = 51 := Tryz.ntmps109
def ic_r3_Level : IC := (.seq (io [em 6 (ci 0), em 7 cf])
  (.seq (.seq (io [em 10 t0, eb 11 .lss t10 (ci 1), em 12 t11, .og 13 12 false (.mv t1), .og 14 12 false (.call 138 [t13]), .og 15 12 false (.un .not t14), .o 16 (.pick t12 ct t15), em 17 t16, .og 18 17 false (.mv t2), .og 19 17 false (.bin .lss t18 (ci 1)), .o 20 (.pick t17 ct t19), em 21 t20, .og 22 21 false (.mv t2), .og 23 21 false (.bin .gtr t22 (ci 120)), .o 24 (.pick t21 ct t23)])
  (.cond t24
  (.seq (io [em 6 (ci 0), em 7 cf])
  .ret)
  .skip))
  (.seq (io [em 8 (ci 9223372036854775807)])
  (.seq (.seq (io [em 25 t8, em 26 t0, em 27 t1, em 28 t2, ec 29 139 [t25, t26, t27, t28], .o 30 (.un .not t29)])
  (.cond t30
  (.seq (io [em 6 (ci 0), em 7 cf])
  .ret)
  .skip))
  (.seq (.seq (io [em 9 (ci 4611686018427387904)])
  (.block 0 (.loop (.seq (.seq (io [em 31 t9, eb 32 .gtr t31 (ci 0)])
  (.cond t32
  .skip
  (.exit 0)))
  (.seq (.block 1 (.seq (io [em 35 t8, em 36 t9, eb 37 .gtr t35 t36, em 38 t37, .og 39 38 true (.mv t8), .og 40 38 true (.mv t9), .og 41 38 true (.bin .sub t39 t40), .og 42 38 true (.mv t0), .og 43 38 true (.mv t1), .og 44 38 true (.mv t2), .og 45 38 true (.call 139 [t41, t42, t43, t44]), .o 46 (.pick t38 t45 cf)])
  (.cond t46
  (.ops [em 47 t8, em 48 t9, eb 49 .sub t47 t48, em 8 t49])
  .skip)))
  (.ops [em 33 t9, eb 34 .quo t33 (ci 2), em 9 t34]))))))
  (.seq (io [em 50 t8, em 6 t50, em 7 ct])
  .ret))))))
theorem hc_r3_Level : compF Tryz.prog 51 Tryz.f109 = some (ic_r3_Level, [.t 6, .t 7]) := by kernel_rfl

theorem fn_r3_month : Tryz.prog.funcs[r3_month]? = some Tryz.f110 := Tryz.func110
theorem nt_r3_month : Tryz.f110.ntmps = 37 := Tryz.ntmps110
def ic_r3_month : IC := (.seq (io [em 4 (ci 0)])
  (.seq (io [em 8 t0, eb 9 .rem t8 (ci 120000), em 10 t1, eb 11 .mul t9 t10, em 5 t11])
  (.seq (io [em 12 t0, eb 13 .quo t12 (ci 120000), em 14 t1, eb 15 .mul t13 t14, em 16 t5, eb 17 .quo t16 (ci 120000), eb 18 .add t15 t17, em 6 t18])
  (.seq (io [em 19 t5, eb 20 .rem t19 (ci 120000), em 7 t20])
  (.seq (.seq (io [em 21 t7, eb 22 .mul (ci 2) t21, eb 23 .gtr t22 (ci 120000), em 24 t23, .og 25 24 false (.mv t7), .og 26 24 false (.bin .mul (ci 2) t25), .og 27 24 false (.bin .eql t26 (ci 120000)), .og 28 24 false (.mv t27), .og 29 28 true (.mv t6), .og 30 28 true (.bin .rem t29 (ci 2)), .og 31 28 true (.bin .eql t30 (ci 1)), .og 32 24 false (.pick t28 t31 cf), .o 33 (.pick t24 ct t32)])
  (.cond t33
  (.ops [em 34 t6, eb 35 .add t34 (ci 1), em 6 t35])
  .skip))
  (.seq (io [em 36 t6, em 4 t36])
  .ret))))))
theorem hc_r3_month : compF Tryz.prog 37 Tryz.f110 = some (ic_r3_month, [.t 4]) := by kernel_rfl

theorem fn_r3_part : Tryz.prog.funcs[r3_part]? = some Tryz.f111 := Tryz.func111
theorem nt_r3_part : Tryz.f111.ntmps = 49 := Tryz.ntmps111
def ic_r3_part : IC := (.seq (io [.o 5 (.box t0), em 10 (ci 0)])
  (.seq (.seq (io [ef 12 0 0 t5, el 13 false 1 t12, eb 14 .eql t13 (ci 0)])
  (.cond t14
  (.seq (.seq (io [em 15 t1, em 16 t4, eb 17 .sub t15 t16, em 18 t3, eb 19 .lss t17 t18])
  (.cond t19
  (.seq (io [em 20 t1, em 21 t4, eb 22 .sub t20 t21, em 10 t22])
  .ret)
  .skip))
  (.seq (io [em 23 t3, em 10 t23])
  .ret))
  .skip))
  (.seq (.seq (io [ef 24 0 0 t5, el 25 false 1 t24, eb 26 .eql t25 (ci 1)])
  (.cond t26
  (.seq (io [ef 27 1 1 t5, el 28 false 1 t27, ef 29 3 3 t5, el 30 false 1 t29, eb 31 .quo t28 t30, em 11 t31])
  (.seq (.seq (io [em 32 t2, ef 33 1 1 t5, el 34 false 1 t33, em 35 t11, ef 36 3 3 t5, el 37 false 1 t36, eb 38 .mul t35 t37, eb 39 .sub t34 t38, eb 40 .leq t32 t39])
  (.cond t40
  (.seq (io [em 41 t11, eb 42 .add t41 (ci 1), em 10 t42])
  .ret)
  .skip))
  (.seq (io [em 43 t11, em 10 t43])
  .ret)))
  .skip))
  (.seq (.seq (io [em 44 t2, ef 45 3 3 t5, el 46 false 1 t45, eb 47 .lss t44 t46])
  (.cond t47
  (.seq (io [em 10 (ci 0)])
  .ret)
  .skip))
  (.seq (io [em 48 t3, em 10 t48])
  .ret)))))
theorem hc_r3_part : compF Tryz.prog 49 Tryz.f111 = some (ic_r3_part, [.t 10]) := by kernel_rfl

theorem fn_r3_Due : Tryz.prog.funcs[r3_Due]? = some Tryz.f112 := Tryz.func112
theorem nt_r3_Due : Tryz.f112.ntmps = 36 := Tryz.ntmps112
def ic_r3_Due : IC := (.seq (io [.o 3 (.box t0), em 6 (ci 0), em 7 cf])
  (.seq (io [ef 13 4 4 t3, el 14 false 1 t13, ec 15 140 [t14], em 12 t15, ex 16 0 t12, ex 17 1 t12, .o 8 (.alloc (.st (zc (zc (zc .nil))))), .n (.sto 3 t8 t16), em 9 t17])
  (.seq (io [ef 19 4 4 t3, el 20 false 1 t19, em 21 t2, ef 22 2 2 t8, el 23 false 1 t22, ec 24 141 [t20, t21, t23], em 18 t24, ex 25 0 t18, ex 26 1 t18, em 10 t25, em 11 t26])
  (.seq (.seq (io [em 27 t11, .o 28 (.un .not t27)])
  (.cond t28
  (.seq (io [em 6 (ci 0), em 7 cf])
  .ret)
  .skip))
  (.seq (io [em 29 t10, em 30 t1, ef 31 5 5 t3, el 32 false 1 t31, ec 33 142 [t29, t30, t32], ex 34 0 t33, ex 35 1 t33, em 6 t34, em 7 t35])
  .ret)))))
theorem hc_r3_Due : compF Tryz.prog 36 Tryz.f112 = some (ic_r3_Due, [.t 6, .t 7]) := by kernel_rfl

theorem fn_r8_Post : Tryz.prog.funcs[r8_Post]? = some Tryz.f113 := Tryz.func113
theorem nt_r8_Post : Tryz.f113.ntmps = 64 := Tryz.ntmps113
def ic_r8_Post : IC := (.seq (io [.o 2 (.box t0), .o 4 (.alloc (.st (.cons (.arr 12 1 fun _ => zi) .nil))), em 5 (ci 0)])
  (.seq (.seq (io [em 6 (ci 0)])
  (.block 0 (.loop (.seq (.seq (io [em 13 t6, em 14 t1, .o 15 (.len t14), eb 16 .lss t13 t15])
  (.cond t16
  .skip
  (.exit 0)))
  (.seq (.block 1 (.seq (io [em 19 t1, em 20 t6, es 21 3 t19 t20, el 22 true 3 t21, ec 23 143 [t22], em 7 t23])
  (.seq (io [em 24 t7, eb 25 .neq t24 (ci 0)])
  (.cond t25
  (.seq (io [el 26 true 12 t2, em 27 t7, .n (.sto 12 t4 t26), em 5 t27])
  .ret)
  .skip))))
  (.ops [em 17 t6, eb 18 .add t17 (ci 1), em 6 t18]))))))
  (.seq (io [.o 8 (.alloc (.st (.cons (.arr 12 1 fun _ => zi) .nil)))])
  (.seq (.seq (io [em 9 (ci 0)])
  (.block 2 (.loop (.seq (.seq (io [em 28 t9, eb 29 .lss t28 (ci 12)])
  (.cond t29
  .skip
  (.exit 2)))
  (.seq (.block 3 (.seq (io [el 33 true 12 t2, em 34 t1, em 35 t9, ec 36 145 [t33, t34, t35], ec 37 144 [t36], em 32 t37, ex 38 0 t32, ex 39 1 t32, em 10 t38, em 11 t39])
  (.seq (.seq (io [em 40 t11, .o 41 (.un .not t40), em 42 t41, .og 43 42 false (.mv t10), .og 44 42 false (.bin .eql t43 (ci (-9223372036854775808))), .o 45 (.pick t42 ct t44)])
  (.cond t45
  (.seq (io [el 46 true 12 t2, .n (.sto 12 t4 t46), em 5 (ci 3)])
  .ret)
  .skip))
  (.ops [em 47 t9, em 48 t10, ef 49 0 0 t8, .o 50 (.ixa 12 1 t49 t47), .n (.sto 1 t50 t48)]))))
  (.ops [em 30 t9, eb 31 .add t30 (ci 1), em 9 t31]))))))
  (.seq (.seq (io [em 12 (ci 0)])
  (.block 4 (.loop (.seq (.seq (io [em 51 t12, eb 52 .lss t51 (ci 12)])
  (.cond t52
  .skip
  (.exit 4)))
  (.seq (.block 5 (.seq (io [em 55 t12, em 56 t12, ef 57 0 0 t8, .o 58 (.ixa 12 1 t57 t56), el 59 false 1 t58, ec 60 146 [t55, t59], .o 61 (.un .not t60)])
  (.cond t61
  (.seq (io [el 62 true 12 t2, .n (.sto 12 t4 t62), em 5 (ci 81)])
  .ret)
  .skip)))
  (.ops [em 53 t12, eb 54 .add t53 (ci 1), em 12 t54]))))))
  (.seq (io [el 63 true 12 t8, .n (.sto 12 t4 t63), em 5 (ci 0)])
  .ret))))))
theorem hc_r8_Post : compF Tryz.prog 64 Tryz.f113 = some (ic_r8_Post, [.c 4 true 12, .t 5]) := by kernel_rfl

theorem fn_r14_accrued : Tryz.prog.funcs[r14_accrued]? = some Tryz.f114 := Tryz.func114
theorem nt_r14_accrued : Tryz.f114.ntmps = 56 := Tryz.ntmps114
def ic_r14_accrued : IC := (.seq (io [.o 2 (.box t0), .o 4 (.alloc (.st (.cons (.st (zc (zc (zc (zc (zc (zc (zc (zc (zc (zc (zc (zc (zc (zc (zc (zc (zc (.cons zs .nil))))))))))))))))))) (.cons (.st (zc (.cons (.st (zc (zc (zc (zc (zc (zc .nil))))))) (.cons zs (.cons (.st (.cons (.arr 12 1 fun _ => zi) .nil)) (.cons (.st (zc (zf (zc (zc (zc (zc (zc (zc (zc (zc (zc (zc (zc (zc (zc .nil)))))))))))))))) (zc (zc (zc (.cons (.st (zc (zc (zc (zc (zc .nil)))))) (zf (zc (zc .nil))))))))))))) (.cons (.st (zc (zc (zc (zc (zc .nil)))))) (.cons zs (zc .nil)))))))])
  (.seq (.seq (io [ef 9 4 70 t2, el 10 false 1 t9, eb 11 .neq t10 (ci 0)])
  (.cond t11
  (.seq (io [el 12 true 71 t2, .n (.sto 71 t4 t12)])
  .ret)
  .skip))
  (.seq (io [ef 13 1 18 t2, ef 14 5 35 t13, el 15 false 1 t14, em 16 t1, eb 17 .add t15 t16, ef 18 1 18 t2, ef 19 5 35 t18, .n (.sto 1 t19 t17)])
  (.seq (.seq (io [ef 20 1 18 t2, el 21 true 46 t20, ec 22 115 [t21]])
  (.cond t22
  (.seq (io [el 23 true 71 t2, .n (.sto 71 t4 t23)])
  .ret)
  .skip))
  (.seq (.dops [ef 25 1 18 t2, el 26 true 46 t25, ec 27 45 [t26, (ci 1)], ef 28 1 18 t2, ef 29 1 1 t28, ef 30 2 2 t29, el 31 false 1 t30, ef 32 1 18 t2, ef 33 6 36 t32, el 34 false 1 t33, em 35 t1, ec 36 147 [t27, t31, t34, t35], em 24 t36, ex 37 0 t24, ex 38 1 t24, ex 39 2 t24, em 5 t37, em 6 t38, em 7 t39])
  (.seq (io [el 40 true 71 t2, em 41 t7, .o 42 (.un .not t41), ec 43 79 [t40, t42, (ci 3)], .n (.sto 71 t2 t43)])
  (.seq (io [em 44 t6, ef 45 1 18 t2, ef 46 6 36 t45, .n (.sto 1 t46 t44)])
  (.seq (io [em 8 (ci 7)])
  (.seq (.seq (io [ef 47 1 18 t2, ef 48 4 20 t47, ef 49 1 1 t48, el 50 false 1 t49])
  (.cond t50
  (.ops [em 8 (ci 5)])
  .skip))
  (.seq (.dops [el 51 true 71 t2, em 52 t8, em 53 t5, ec 54 84 [(.c (.slice none 0 0)), (ci 2), t52, t53], ec 55 83 [t51, t54], .n (.sto 71 t4 t55)])
  .ret))))))))))
theorem hc_r14_accrued : compF Tryz.prog 56 Tryz.f114 = some (ic_r14_accrued, [.c 4 true 71]) := by kernel_rfl

theorem fn_r14_over : Tryz.prog.funcs[r14_over]? = some Tryz.f115 := Tryz.func115
theorem nt_r14_over : Tryz.f115.ntmps = 13 := Tryz.ntmps115
def ic_r14_over : IC := (.seq (io [.o 1 (.box t0), em 2 cf])
  (.seq (io [ef 3 4 20 t1, ef 4 0 0 t3, el 5 false 1 t4, eb 6 .eql t5 (ci 9), em 7 t6, .og 8 7 false (.fa 4 20 t1), .og 9 7 false (.fa 0 0 t8), .og 10 7 false (.ld false 1 t9), .og 11 7 false (.bin .eql t10 (ci 8)), .o 12 (.pick t7 ct t11), em 2 t12])
  .ret))
theorem hc_r14_over : compF Tryz.prog 13 Tryz.f115 = some (ic_r14_over, [.t 2]) := by kernel_rfl

theorem fn_r14_played : Tryz.prog.funcs[r14_played]? = some Tryz.f116 := Tryz.func116
theorem nt_r14_played : Tryz.f116.ntmps = 45 := Tryz.ntmps116
def ic_r14_played : IC := (.seq (io [.o 2 (.box t0), .o 3 (.box t1), .o 4 (.alloc (.st (.cons (.st (zc (zc (zc (zc (zc (zc (zc (zc (zc (zc (zc (zc (zc (zc (zc (zc (zc (.cons zs .nil))))))))))))))))))) (.cons (.st (zc (.cons (.st (zc (zc (zc (zc (zc (zc .nil))))))) (.cons zs (.cons (.st (.cons (.arr 12 1 fun _ => zi) .nil)) (.cons (.st (zc (zf (zc (zc (zc (zc (zc (zc (zc (zc (zc (zc (zc (zc (zc .nil)))))))))))))))) (zc (zc (zc (.cons (.st (zc (zc (zc (zc (zc .nil)))))) (zf (zc (zc .nil))))))))))))) (.cons (.st (zc (zc (zc (zc (zc .nil)))))) (.cons zs (zc .nil)))))))])
  (.seq (.seq (io [ef 9 4 70 t2, el 10 false 1 t9, eb 11 .neq t10 (ci 0)])
  (.cond t11
  (.seq (io [el 12 true 71 t2, .n (.sto 71 t4 t12)])
  .ret)
  .skip))
  (.seq (io [ef 14 0 0 t2, el 15 true 18 t14, ef 16 1 18 t2, ef 17 4 20 t16, el 18 true 15 t17, el 19 true 4 t3, ec 20 148 [t15, t18, t19], em 13 t20, ex 21 0 t13, ex 22 1 t13, ex 23 2 t13, .o 5 (.alloc (.st (zc (zf (zc (zc (zc (zc (zc (zc (zc (zc (zc (zc (zc (zc (zc .nil))))))))))))))))), .n (.sto 15 t5 t21), em 6 t22, em 7 t23])
  (.seq (.seq (io [em 24 t7, eb 25 .neq t24 (ci 0)])
  (.cond t25
  (.seq (io [em 26 t7, ef 27 4 70 t2, .n (.sto 1 t27 t26)])
  (.seq (io [el 28 true 71 t2, .n (.sto 71 t4 t28)])
  .ret))
  .skip))
  (.seq (io [el 29 true 15 t5, ef 30 1 18 t2, ef 31 4 20 t30, .n (.sto 15 t31 t29)])
  (.seq (.seq (io [em 8 (ci 0)])
  (.block 0 (.loop (.seq (.seq (io [em 32 t8, em 33 t6, .o 34 (.len t33), eb 35 .lss t32 t34])
  (.cond t35
  .skip
  (.exit 0)))
  (.seq (.block 1 (.dops [el 38 true 71 t2, em 39 t6, em 40 t8, es 41 1 t39 t40, el 42 false 1 t41, ec 43 149 [t38, t42], .n (.sto 71 t2 t43)]))
  (.ops [em 36 t8, eb 37 .add t36 (ci 1), em 8 t37]))))))
  (.seq (io [el 44 true 71 t2, .n (.sto 71 t4 t44)])
  .ret)))))))
theorem hc_r14_played : compF Tryz.prog 45 Tryz.f116 = some (ic_r14_played, [.c 4 true 71]) := by kernel_rfl

theorem fn_r14_charged : Tryz.prog.funcs[r14_charged]? = some Tryz.f117 := Tryz.func117
theorem nt_r14_charged : Tryz.f117.ntmps = 90 := Tryz.ntmps117
def ic_r14_charged : IC := (.seq (io [.o 1 (.box t0), .o 2 (.alloc (.st (.cons (.st (zc (zc (zc (zc (zc (zc (zc (zc (zc (zc (zc (zc (zc (zc (zc (zc (zc (.cons zs .nil))))))))))))))))))) (.cons (.st (zc (.cons (.st (zc (zc (zc (zc (zc (zc .nil))))))) (.cons zs (.cons (.st (.cons (.arr 12 1 fun _ => zi) .nil)) (.cons (.st (zc (zf (zc (zc (zc (zc (zc (zc (zc (zc (zc (zc (zc (zc (zc .nil)))))))))))))))) (zc (zc (zc (.cons (.st (zc (zc (zc (zc (zc .nil)))))) (zf (zc (zc .nil))))))))))))) (.cons (.st (zc (zc (zc (zc (zc .nil)))))) (.cons zs (zc .nil)))))))])
  (.seq (.seq (io [ef 7 4 70 t1, el 8 false 1 t7, eb 9 .neq t8 (ci 0), em 10 t9, .og 11 10 false (.fa 1 18 t1), .og 12 10 false (.fa 4 20 t11), .og 13 10 false (.ld true 15 t12), .og 14 10 false (.call 150 [t13]), .og 15 10 false (.un .not t14), .o 16 (.pick t10 ct t15), em 17 t16, .og 18 17 false (.fa 1 18 t1), .og 19 17 false (.fa 4 20 t18), .og 20 17 false (.fa 0 0 t19), .og 21 17 false (.ld false 1 t20), .og 22 17 false (.bin .eql t21 (ci 4)), .o 23 (.pick t17 ct t22)])
  (.cond t23
  (.seq (io [el 24 true 71 t1, .n (.sto 71 t2 t24)])
  .ret)
  .skip))
  (.seq (.dops [ef 25 1 18 t1, ef 26 2 7 t25, el 27 false 1 t26, ef 28 1 18 t1, el 29 true 46 t28, ec 30 47 [t29], ef 31 1 18 t1, ef 32 5 35 t31, el 33 false 1 t32, ef 34 0 0 t1, ef 35 1 1 t34, el 36 false 1 t35, ec 37 151 [t27, t30, t33, t36], em 3 t37])
  (.seq (.seq (io [em 4 (ci 0)])
  (.block 0 (.loop (.seq (.seq (io [em 38 t4, em 39 t3, .o 40 (.len t39), eb 41 .lss t38 t40])
  (.cond t41
  .skip
  (.exit 0)))
  (.seq (.block 1 (.seq (.dops [ef 44 1 18 t1, ef 45 2 7 t44, el 46 false 1 t45, em 47 t3, em 48 t4, es 49 1 t47 t48, el 50 false 1 t49, es 51 4 t46 t50, el 52 true 4 t51, .o 5 (.alloc (.st (zc (zc (zc (zf .nil)))))), .n (.sto 4 t5 t52)])
  (.seq (io [ef 53 0 0 t1, el 54 true 18 t53, ef 55 1 1 t5, el 56 false 1 t55, ef 57 2 2 t5, el 58 false 1 t57, eb 59 .add t56 t58, ef 60 1 18 t1, ef 61 4 20 t60, ef 62 13 13 t61, el 63 false 1 t62, ef 64 1 18 t1, ef 65 4 20 t64, ef 66 14 14 t65, el 67 false 1 t66, ec 68 152 [t54, t59, t63, t67], em 6 t68])
  (.seq (io [em 69 t6, eb 70 .gtr t69 (ci 0)])
  (.cond t70
  (.seq (io [el 71 true 71 t1, em 72 t6, .o 73 (.build (.st (zc (zc (zc (zc .nil))))) [(0, 0, 1, (ci 6)), (3, 3, 1, t72)]), ec 74 116 [t71, t73], .n (.sto 71 t1 t74)])
  (.seq (.dops [el 75 true 71 t1, em 76 t6, ec 77 84 [(.c (.slice none 0 0)), (ci 3), (ci 8), t76], ec 78 83 [t75, t77], .n (.sto 71 t1 t78)])
  (.ops [el 79 true 71 t1, em 80 t6, ec 81 123 [t79, (ci 5), t80], .n (.sto 71 t1 t81)])))
  .skip)))))
  (.ops [em 42 t4, eb 43 .add t42 (ci 1), em 4 t43]))))))
  (.seq (io [ef 82 1 18 t1, ef 83 2 7 t82, el 84 false 1 t83, em 85 t3, ec 86 153 [t84, t85], ef 87 1 18 t1, ef 88 2 7 t87, .n (.sto 1 t88 t86)])
  (.seq (io [el 89 true 71 t1, .n (.sto 71 t2 t89)])
  .ret))))))
theorem hc_r14_charged : compF Tryz.prog 90 Tryz.f117 = some (ic_r14_charged, [.c 2 true 71]) := by kernel_rfl

theorem fn_r14_parted : Tryz.prog.funcs[r14_parted]? = some Tryz.f118 := Tryz.func118
theorem nt_r14_parted : Tryz.f118.ntmps = 34 := Tryz.ntmps118
def ic_r14_parted : IC := (.seq (io [.o 3 (.box t0), .o 4 (.box t1), .o 6 (.alloc (.st (zc (zc (zc (zc (zc .nil))))))), em 7 (ci 0)])
  (.seq (.seq (io [ef 8 4 20 t4, ef 9 0 0 t8, el 10 false 1 t9])
  (.block 0 (.seq (io [eb 12 .eql t10 (ci 9), em 11 t12])
  (.cond t11
  (.seq (io [em 13 t2, .o 14 (.build (.st (zc (zc (zc (zc (zc .nil)))))) [(3, 3, 1, t13)]), .n (.sto 5 t6 t14), em 7 (ci 0)])
  .ret)
  (.seq (io [eb 16 .eql t10 (ci 8), em 15 t16])
  (.cond t15
  (.seq (.dops [ef 17 10 44 t4, el 18 false 1 t17, el 19 true 46 t4, ec 20 45 [t19, (ci 10)], eb 21 .sub t18 t20, em 22 t2, ec 23 154 [t21, t22], ex 24 0 t23, ex 25 1 t23, .n (.sto 5 t6 t24), em 7 t25])
  .ret)
  .skip))))))
  (.seq (.dops [ef 26 12 12 t3, el 27 false 1 t26, el 28 true 46 t4, ec 29 124 [t28], em 30 t2, ec 31 155 [t27, t29, t30], ex 32 0 t31, ex 33 1 t31, .n (.sto 5 t6 t32), em 7 t33])
  .ret)))
theorem hc_r14_parted : compF Tryz.prog 34 Tryz.f118 = some (ic_r14_parted, [.c 6 true 5, .t 7]) := by kernel_rfl

theorem fn_r9_Entries : Tryz.prog.funcs[r9_Entries]? = some Tryz.f119 := Tryz.func119
theorem nt_r9_Entries : Tryz.f119.ntmps = 5 := Tryz.ntmps119
def ic_r9_Entries : IC := (.seq (io [.o 1 (.box t0), em 2 (.c (.slice none 0 0))])
  (.seq (io [el 3 true 5 t1, ec 4 156 [t3, cf], em 2 t4])
  .ret))
theorem hc_r9_Entries : compF Tryz.prog 5 Tryz.f119 = some (ic_r9_Entries, [.t 2]) := by kernel_rfl

theorem fn_r14_settled : Tryz.prog.funcs[r14_settled]? = some Tryz.f120 := Tryz.func120
theorem nt_r14_settled : Tryz.f120.ntmps = 29 := Tryz.ntmps120
def ic_r14_settled : IC := (.seq (io [.o 1 (.box t0), .o 2 (.alloc (.st (.cons (.st (zc (zc (zc (zc (zc (zc (zc (zc (zc (zc (zc (zc (zc (zc (zc (zc (zc (.cons zs .nil))))))))))))))))))) (.cons (.st (zc (.cons (.st (zc (zc (zc (zc (zc (zc .nil))))))) (.cons zs (.cons (.st (.cons (.arr 12 1 fun _ => zi) .nil)) (.cons (.st (zc (zf (zc (zc (zc (zc (zc (zc (zc (zc (zc (zc (zc (zc (zc .nil)))))))))))))))) (zc (zc (zc (.cons (.st (zc (zc (zc (zc (zc .nil)))))) (zf (zc (zc .nil))))))))))))) (.cons (.st (zc (zc (zc (zc (zc .nil)))))) (.cons zs (zc .nil)))))))])
  (.seq (io [ef 4 1 18 t1, el 5 true 46 t4, ec 6 124 [t5], .o 3 (.alloc (.st (zc (zc (zc .nil))))), .n (.sto 3 t3 t6)])
  (.seq (.seq (io [ef 7 4 70 t1, el 8 false 1 t7, eb 9 .eql t8 (ci 0), em 10 t9, .og 11 10 true (.fa 0 0 t3), .og 12 10 true (.ld false 1 t11), .og 13 10 true (.bin .eql t12 (ci 0)), .o 14 (.pick t10 t13 cf), em 15 t14, .og 16 15 true (.fa 1 1 t3), .og 17 15 true (.ld false 1 t16), .og 18 15 true (.bin .eql t17 (ci 0)), .o 19 (.pick t15 t18 cf), em 20 t19, .og 21 20 true (.fa 2 2 t3), .og 22 20 true (.ld false 1 t21), .og 23 20 true (.bin .eql t22 (ci 0)), .o 24 (.pick t20 t23 cf)])
  (.cond t24
  (.seq (io [el 25 true 71 t1, .o 26 (.build (.st (zc (zc (zc (zc .nil))))) [(0, 0, 1, (ci 7))]), ec 27 116 [t25, t26], .n (.sto 71 t2 t27)])
  .ret)
  .skip))
  (.seq (io [el 28 true 71 t1, .n (.sto 71 t2 t28)])
  .ret))))
theorem hc_r14_settled : compF Tryz.prog 29 Tryz.f120 = some (ic_r14_settled, [.c 2 true 71]) := by kernel_rfl

theorem fn_r9_Undo : Tryz.prog.funcs[r9_Undo]? = some Tryz.f121 := Tryz.func121
theorem nt_r9_Undo : Tryz.f121.ntmps = 5 := Tryz.ntmps121
def ic_r9_Undo : IC := (.seq (io [.o 1 (.box t0), em 2 (.c (.slice none 0 0))])
  (.seq (io [el 3 true 5 t1, ec 4 156 [t3, ct], em 2 t4])
  .ret))
theorem hc_r9_Undo : compF Tryz.prog 5 Tryz.f121 = some (ic_r9_Undo, [.t 2]) := by kernel_rfl

theorem fn_r14_forgotten : Tryz.prog.funcs[r14_forgotten]? = some Tryz.f122 := Tryz.func122
theorem nt_r14_forgotten : Tryz.f122.ntmps = 12 := Tryz.ntmps122
def ic_r14_forgotten : IC := (.seq (io [.o 1 (.box t0), .o 2 (.alloc (.st (.cons (.st (zc (zc (zc (zc (zc (zc (zc (zc (zc (zc (zc (zc (zc (zc (zc (zc (zc (.cons zs .nil))))))))))))))))))) (.cons (.st (zc (.cons (.st (zc (zc (zc (zc (zc (zc .nil))))))) (.cons zs (.cons (.st (.cons (.arr 12 1 fun _ => zi) .nil)) (.cons (.st (zc (zf (zc (zc (zc (zc (zc (zc (zc (zc (zc (zc (zc (zc (zc .nil)))))))))))))))) (zc (zc (zc (.cons (.st (zc (zc (zc (zc (zc .nil)))))) (zf (zc (zc .nil))))))))))))) (.cons (.st (zc (zc (zc (zc (zc .nil)))))) (.cons zs (zc .nil)))))))])
  (.seq (.seq (io [ef 3 4 70 t1, el 4 false 1 t3, eb 5 .eql t4 (ci 0)])
  (.cond t5
  (.seq (io [ef 6 1 18 t1, ef 7 9 43 t6, .n (.sto 1 t7 cf)])
  (.ops [.o 8 (.build (.st (zc (zc (zc (zc (zc .nil)))))) []), ef 9 1 18 t1, ef 10 8 38 t9, .n (.sto 5 t10 t8)]))
  .skip))
  (.seq (io [el 11 true 71 t1, .n (.sto 71 t2 t11)])
  .ret)))
theorem hc_r14_forgotten : compF Tryz.prog 12 Tryz.f122 = some (ic_r14_forgotten, [.c 2 true 71]) := by kernel_rfl

theorem fn_r14_noted : Tryz.prog.funcs[r14_noted]? = some Tryz.f123 := Tryz.func123
theorem nt_r14_noted : Tryz.f123.ntmps = 25 := Tryz.ntmps123
def ic_r14_noted : IC := (.seq (io [.o 3 (.box t0), .o 6 (.alloc (.st (.cons (.st (zc (zc (zc (zc (zc (zc (zc (zc (zc (zc (zc (zc (zc (zc (zc (zc (zc (.cons zs .nil))))))))))))))))))) (.cons (.st (zc (.cons (.st (zc (zc (zc (zc (zc (zc .nil))))))) (.cons zs (.cons (.st (.cons (.arr 12 1 fun _ => zi) .nil)) (.cons (.st (zc (zf (zc (zc (zc (zc (zc (zc (zc (zc (zc (zc (zc (zc (zc .nil)))))))))))))))) (zc (zc (zc (.cons (.st (zc (zc (zc (zc (zc .nil)))))) (zf (zc (zc .nil))))))))))))) (.cons (.st (zc (zc (zc (zc (zc .nil)))))) (.cons zs (zc .nil)))))))])
  (.seq (.seq (io [ef 7 4 70 t3, el 8 false 1 t7, eb 9 .eql t8 (ci 0)])
  (.cond t9
  (.ops [ef 10 3 69 t3, el 11 false 1 t10, ef 12 1 18 t3, ef 13 0 0 t12, el 14 false 1 t13, em 15 t1, ef 16 1 18 t3, ef 17 5 35 t16, el 18 false 1 t17, em 19 t2, .o 20 (.build (.st (zc (zc (zc (zc (zc (zf .nil))))))) [(1, 1, 1, t14), (2, 2, 1, t15), (3, 3, 1, t18), (4, 4, 1, t19)]), .o 21 (.bsl 6 131 (.st (zc (zc (zc (zc (zc (zf .nil))))))) [(0, 0, 6, t20)]), .o 22 (.app 6 48 131 t11 t21), ef 23 3 69 t3, .n (.sto 1 t23 t22)])
  .skip))
  (.seq (io [el 24 true 71 t3, .n (.sto 71 t6 t24)])
  .ret)))
theorem hc_r14_noted : compF Tryz.prog 25 Tryz.f123 = some (ic_r14_noted, [.c 6 true 71]) := by kernel_rfl

theorem fn_r14_owed : Tryz.prog.funcs[r14_owed]? = some Tryz.f124 := Tryz.func124
theorem nt_r14_owed : Tryz.f124.ntmps = 10 := Tryz.ntmps124
def ic_r14_owed : IC := (.seq (io [.o 1 (.box t0), .o 2 (.alloc (.st (zc (zc (zc .nil)))))])
  (.seq (.dops [el 3 true 46 t1, ec 4 45 [t3, (ci 3)], el 5 true 46 t1, ec 6 45 [t5, (ci 2)], el 7 true 46 t1, ec 8 45 [t7, (ci 1)], .o 9 (.build (.st (zc (zc (zc .nil)))) [(0, 0, 1, t4), (1, 1, 1, t6), (2, 2, 1, t8)]), .n (.sto 3 t2 t9)])
  .ret))
theorem hc_r14_owed : compF Tryz.prog 10 Tryz.f124 = some (ic_r14_owed, [.c 2 true 3]) := by kernel_rfl

theorem fn_r14_sum : Tryz.prog.funcs[r14_sum]? = some Tryz.f125 := Tryz.func125
theorem nt_r14_sum : Tryz.f125.ntmps = 11 := Tryz.ntmps125
def ic_r14_sum : IC := (.seq (io [.o 1 (.box t0), em 2 (ci 0)])
  (.seq (io [ef 3 0 0 t1, el 4 false 1 t3, ef 5 1 1 t1, el 6 false 1 t5, eb 7 .add t4 t6, ef 8 2 2 t1, el 9 false 1 t8, eb 10 .add t7 t9, em 2 t10])
  .ret))
theorem hc_r14_sum : compF Tryz.prog 11 Tryz.f125 = some (ic_r14_sum, [.t 2]) := by kernel_rfl

theorem fn_r8_is : Tryz.prog.funcs[r8_is]? = some Tryz.f126 := Tryz.func126
theorem nt_r8_is : Tryz.f126.ntmps = 9 := Tryz.ntmps126
def ic_r8_is : IC := (.seq (io [em 2 cf])
  (.seq (io [em 3 t0, eb 4 .geq t3 (ci 0), em 5 t4, .og 6 5 true (.mv t0), .og 7 5 true (.bin .lss t6 (ci 12)), .o 8 (.pick t5 t7 cf), em 2 t8])
  .ret))
theorem hc_r8_is : compF Tryz.prog 9 Tryz.f126 = some (ic_r8_is, [.t 2]) := by kernel_rfl

theorem fn_r8_Debits : Tryz.prog.funcs[r8_Debits]? = some Tryz.f127 := Tryz.func127
theorem nt_r8_Debits : Tryz.f127.ntmps = 11 := Tryz.ntmps127
def ic_r8_Debits : IC := (.seq (io [em 2 cf])
  (.seq (.seq (io [em 3 t0])
  (.block 0 (.seq (.seq (io [eb 5 .eql t3 (ci 0), em 4 t5])
  (.cond t4
  .skip
  (.seq (io [eb 6 .eql t3 (ci 1), em 4 t6])
  (.cond t4
  .skip
  (.seq (io [eb 7 .eql t3 (ci 2), em 4 t7])
  (.cond t4
  .skip
  (.seq (io [eb 8 .eql t3 (ci 3), em 4 t8])
  (.cond t4
  .skip
  (.seq (io [eb 9 .eql t3 (ci 9), em 4 t9])
  (.cond t4
  .skip
  (.ops [eb 10 .eql t3 (ci 11), em 4 t10])))))))))))
  (.cond t4
  (.seq (io [em 2 ct])
  .ret)
  .skip))))
  (.seq (io [em 2 cf])
  .ret)))
theorem hc_r8_Debits : compF Tryz.prog 11 Tryz.f127 = some (ic_r8_Debits, [.t 2]) := by kernel_rfl

theorem fn_r10_late : Tryz.prog.funcs[r10_late]? = some Tryz.f128 := Tryz.func128
theorem nt_r10_late : Tryz.f128.ntmps = 13 := Tryz.ntmps128
def ic_r10_late : IC := (.seq (io [.o 2 (.box t0), em 4 (ci 0)])
  (.seq (.seq (io [em 5 t1, ef 6 0 0 t2, el 7 false 1 t6, eb 8 .leq t5 t7])
  (.cond t8
  (.seq (io [em 4 (ci 0)])
  .ret)
  .skip))
  (.seq (io [em 9 t1, ef 10 0 0 t2, el 11 false 1 t10, eb 12 .sub t9 t11, em 4 t12])
  .ret)))
theorem hc_r10_late : compF Tryz.prog 13 Tryz.f128 = some (ic_r10_late, [.t 4]) := by kernel_rfl

theorem fn_r10_before : Tryz.prog.funcs[r10_before]? = some Tryz.f129 := Tryz.func129
theorem nt_r10_before : Tryz.f129.ntmps = 26 := Tryz.ntmps129
def ic_r10_before : IC := (.seq (io [em 4 (ci 0)])
  (.seq (io [em 5 (ci 0)])
  (.seq (.seq (io [em 6 (ci 0)])
  (.block 0 (.loop (.seq (.seq (io [em 7 t6, em 8 t1, eb 9 .lss t7 t8])
  (.cond t9
  .skip
  (.exit 0)))
  (.seq (.block 1 (.dops [em 12 t5, em 13 t0, em 14 t6, es 15 4 t13 t14, ef 16 1 1 t15, el 17 false 1 t16, eb 18 .add t12 t17, em 19 t0, em 20 t6, es 21 4 t19 t20, ef 22 2 2 t21, el 23 false 1 t22, eb 24 .add t18 t23, em 5 t24]))
  (.ops [em 10 t6, eb 11 .add t10 (ci 1), em 6 t11]))))))
  (.seq (io [em 25 t5, em 4 t25])
  .ret))))
theorem hc_r10_before : compF Tryz.prog 26 Tryz.f129 = some (ic_r10_before, [.t 4]) := by kernel_rfl

theorem fn_r10_paid : Tryz.prog.funcs[r10_paid]? = some Tryz.f130 := Tryz.func130
theorem nt_r10_paid : Tryz.f130.ntmps = 8 := Tryz.ntmps130
def ic_r10_paid : IC := (.seq (io [.o 1 (.box t0), em 2 (ci 0)])
  (.seq (.seq (io [ef 3 0 0 t1, el 4 false 1 t3, eb 5 .lss t4 (ci 0)])
  (.cond t5
  (.seq (io [em 2 (ci 0)])
  .ret)
  .skip))
  (.seq (io [ef 6 0 0 t1, el 7 false 1 t6, em 2 t7])
  .ret)))
theorem hc_r10_paid : compF Tryz.prog 8 Tryz.f130 = some (ic_r10_paid, [.t 2]) := by kernel_rfl

theorem fn_r10_Sound : Tryz.prog.funcs[r10_Sound]? = some Tryz.f131 := Tryz.func131
theorem nt_r10_Sound : Tryz.f131.ntmps = 65 := Tryz.ntmps131
def ic_r10_Sound : IC := (.seq (io [em 2 cf])
  (.seq (.seq (io [em 3 (ci 0)])
  (.block 0 (.loop (.seq (.seq (io [em 6 t3, em 7 t0, .o 8 (.len t7), eb 9 .lss t6 t8])
  (.cond t9
  .skip
  (.exit 0)))
  (.seq (.block 1 (.seq (.seq (io [em 12 t0, em 13 t3, es 14 4 t12 t13, ef 15 0 0 t14, el 16 false 1 t15, eb 17 .lss t16 (ci 1), em 18 t17, .og 19 18 false (.mv t0), .og 20 18 false (.mv t3), .og 21 18 false (.ixs 4 t19 t20), .og 22 18 false (.fa 0 0 t21), .og 23 18 false (.ld false 1 t22), .og 24 18 false (.bin .gtr t23 (ci 3652059)), .o 25 (.pick t18 ct t24), em 26 t25, .og 27 26 false (.mv t0), .og 28 26 false (.mv t3), .og 29 26 false (.ixs 4 t27 t28), .og 30 26 false (.fa 1 1 t29), .og 31 26 false (.ld false 1 t30), .og 32 26 false (.bin .lss t31 (ci 0)), .o 33 (.pick t26 ct t32), em 34 t33, .og 35 34 false (.mv t0), .og 36 34 false (.mv t3), .og 37 34 false (.ixs 4 t35 t36), .og 38 34 false (.fa 2 2 t37), .og 39 34 false (.ld false 1 t38), .og 40 34 false (.bin .lss t39 (ci 0)), .o 41 (.pick t34 ct t40)])
  (.cond t41
  (.seq (io [em 2 cf])
  .ret)
  .skip))
  (.seq (.dops [em 42 t3, eb 43 .gtr t42 (ci 0), em 44 t43, .og 45 44 true (.mv t0), .og 46 44 true (.mv t3), .og 47 44 true (.ixs 4 t45 t46), .og 48 44 true (.fa 0 0 t47), .og 49 44 true (.ld false 1 t48), .og 50 44 true (.mv t0), .og 51 44 true (.mv t3), .og 52 44 true (.bin .sub t51 (ci 1)), .og 53 44 true (.ixs 4 t50 t52), .og 54 44 true (.fa 0 0 t53), .og 55 44 true (.ld false 1 t54), .og 56 44 true (.bin .leq t49 t55), .o 57 (.pick t44 t56 cf)])
  (.cond t57
  (.seq (io [em 2 cf])
  .ret)
  .skip))))
  (.ops [em 10 t3, eb 11 .add t10 (ci 1), em 3 t11]))))))
  (.seq (io [em 59 t0, ec 60 157 [t59], ec 61 144 [t60], em 58 t61, ex 62 0 t58, ex 63 1 t58, em 4 t62, em 5 t63])
  (.seq (io [em 64 t5, em 2 t64])
  .ret))))
theorem hc_r10_Sound : compF Tryz.prog 65 Tryz.f131 = some (ic_r10_Sound, [.t 2]) := by kernel_rfl

theorem fn_internal_strconv_log10Pow2 : Tryz.prog.funcs[internal_strconv_log10Pow2]? = some Tryz.f133 := Tryz.func133
theorem nt_internal_strconv_log10Pow2 : Tryz.f133.ntmps = 6 := Tryz.ntmps133
def ic_internal_strconv_log10Pow2 : IC := (.seq (io [em 2 (ci 0)])
  (.seq (io [em 3 t0, eb 4 .mul t3 (ci 78913), eb 5 .shr t4 (.c (.int .u64 18)), em 2 t5])
  .ret))
theorem hc_internal_strconv_log10Pow2 : compF Tryz.prog 6 Tryz.f133 = some (ic_internal_strconv_log10Pow2, [.t 2]) := by kernel_rfl

theorem fn_math_bits_Len64 : Tryz.prog.funcs[math_bits_Len64]? = some Tryz.f134 := Tryz.func134
theorem nt_math_bits_Len64 : Tryz.f134.ntmps = 25 := Tryz.ntmps134
def ic_math_bits_Len64 : IC := (.seq (io [em 2 (ci 0)])
  (.seq (.seq (io [em 3 t0, eb 4 .geq t3 (.c (.int .u64 4294967296))])
  (.cond t4
  (.seq (io [em 5 t0, eb 6 .shr t5 (.c (.int .u64 32)), em 0 t6])
  (.ops [em 2 (ci 32)]))
  .skip))
  (.seq (.seq (io [em 7 t0, eb 8 .geq t7 (.c (.int .u64 65536))])
  (.cond t8
  (.seq (io [em 9 t0, eb 10 .shr t9 (.c (.int .u64 16)), em 0 t10])
  (.ops [em 11 t2, eb 12 .add t11 (ci 16), em 2 t12]))
  .skip))
  (.seq (.seq (io [em 13 t0, eb 14 .geq t13 (.c (.int .u64 256))])
  (.cond t14
  (.seq (io [em 15 t0, eb 16 .shr t15 (.c (.int .u64 8)), em 0 t16])
  (.ops [em 17 t2, eb 18 .add t17 (ci 8), em 2 t18]))
  .skip))
  (.seq (io [em 19 t2, em 20 t0, .o 21 (.conv .u8 t20), .o 22 (.ixb (.c (.string ⟨#[0, 1, 2, 2, 3, 3, 3, 3, 4, 4, 4, 4, 4, 4, 4, 4, 5, 5, 5, 5, 5, 5, 5, 5, 5, 5, 5, 5, 5, 5, 5, 5, 6, 6, 6, 6, 6, 6, 6, 6, 6, 6, 6, 6, 6, 6, 6, 6, 6, 6, 6, 6, 6, 6, 6, 6, 6, 6, 6, 6, 6, 6, 6, 6, 7, 7, 7, 7, 7, 7, 7, 7, 7, 7, 7, 7, 7, 7, 7, 7, 7, 7, 7, 7, 7, 7, 7, 7, 7, 7, 7, 7, 7, 7, 7, 7, 7, 7, 7, 7, 7, 7, 7, 7, 7, 7, 7, 7, 7, 7, 7, 7, 7, 7, 7, 7, 7, 7, 7, 7, 7, 7, 7, 7, 7, 7, 7, 7, 8, 8, 8, 8, 8, 8, 8, 8, 8, 8, 8, 8, 8, 8, 8, 8, 8, 8, 8, 8, 8, 8, 8, 8, 8, 8, 8, 8, 8, 8, 8, 8, 8, 8, 8, 8, 8, 8, 8, 8, 8, 8, 8, 8, 8, 8, 8, 8, 8, 8, 8, 8, 8, 8, 8, 8, 8, 8, 8, 8, 8, 8, 8, 8, 8, 8, 8, 8, 8, 8, 8, 8, 8, 8, 8, 8, 8, 8, 8, 8, 8, 8, 8, 8, 8, 8, 8, 8, 8, 8, 8, 8, 8, 8, 8, 8, 8, 8, 8, 8, 8, 8, 8, 8, 8, 8, 8, 8, 8, 8, 8, 8, 8, 8, 8, 8, 8, 8, 8, 8, 8, 8, 8, 8, 8, 8, 8, 8]⟩)) t21), .o 23 (.conv .i64 t22), eb 24 .add t19 t23, em 2 t24])
  .ret)))))
theorem hc_math_bits_Len64 : compF Tryz.prog 25 Tryz.f134 = some (ic_math_bits_Len64, [.t 2]) := by kernel_rfl

theorem fn_internal_strconv_bool2_int_ : Tryz.prog.funcs[internal_strconv_bool2_int_]? = some Tryz.f135 := Tryz.func135
theorem nt_internal_strconv_bool2_int_ : Tryz.f135.ntmps = 4 := Tryz.ntmps135
def ic_internal_strconv_bool2_int_ : IC := (.seq (io [em 2 (ci 0)])
  (.seq (.seq (io [em 3 t0])
  (.cond t3
  (.seq (io [em 2 (ci 1)])
  .ret)
  .skip))
  (.seq (io [em 2 (ci 0)])
  .ret)))
theorem hc_internal_strconv_bool2_int_ : compF Tryz.prog 4 Tryz.f135 = some (ic_internal_strconv_bool2_int_, [.t 2]) := by kernel_rfl

theorem fn_internal_strconv_isPowerOfTwo : Tryz.prog.funcs[internal_strconv_isPowerOfTwo]? = some Tryz.f136 := Tryz.func136
theorem nt_internal_strconv_isPowerOfTwo : Tryz.f136.ntmps = 8 := Tryz.ntmps136
def ic_internal_strconv_isPowerOfTwo : IC := (.seq (io [em 2 cf])
  (.seq (io [em 3 t0, em 4 t0, eb 5 .sub t4 (ci 1), eb 6 .and t3 t5, eb 7 .eql t6 (ci 0), em 2 t7])
  .ret))
theorem hc_internal_strconv_isPowerOfTwo : compF Tryz.prog 8 Tryz.f136 = some (ic_internal_strconv_isPowerOfTwo, [.t 2]) := by kernel_rfl

theorem fn_math_bits_TrailingZeros : Tryz.prog.funcs[math_bits_TrailingZeros]? = some Tryz.f137 := Tryz.func137
theorem nt_math_bits_TrailingZeros : Tryz.f137.ntmps = 8 := Tryz.ntmps137
def ic_math_bits_TrailingZeros : IC := (.seq (io [em 2 (ci 0)])
  (.seq (.cond cf
  (.seq (io [em 3 t0, .o 4 (.conv .u32 t3), ec 5 158 [t4], em 2 t5])
  .ret)
  .skip)
  (.seq (io [em 6 t0, ec 7 159 [t6], em 2 t7])
  .ret)))
theorem hc_math_bits_TrailingZeros : compF Tryz.prog 8 Tryz.f137 = some (ic_math_bits_TrailingZeros, [.t 2]) := by kernel_rfl

theorem fn_r3_isRate : Tryz.prog.funcs[r3_isRate]? = some Tryz.f138 := Tryz.func138
theorem nt_r3_isRate : Tryz.f138.ntmps = 9 := Tryz.ntmps138
def ic_r3_isRate : IC := (.seq (io [em 2 cf])
  (.seq (io [em 3 t0, eb 4 .geq t3 (ci 0), em 5 t4, .og 6 5 true (.mv t0), .og 7 5 true (.bin .leq t6 (ci 100000)), .o 8 (.pick t5 t7 cf), em 2 t8])
  .ret))
theorem hc_r3_isRate : compF Tryz.prog 9 Tryz.f138 = some (ic_r3_isRate, [.t 2]) := by kernel_rfl

theorem fn_r3_PaysOff : Tryz.prog.funcs[r3_PaysOff]? = some Tryz.f139 := Tryz.func139
theorem nt_r3_PaysOff : Tryz.f139.ntmps = 32 := Tryz.ntmps139
def ic_r3_PaysOff : IC := (.seq (io [em 8 cf])
  (.seq (.seq (io [em 9 (ci 0)])
  (.block 0 (.loop (.seq (.seq (io [em 11 t9, em 12 t3, eb 13 .lss t11 t12])
  (.cond t13
  .skip
  (.exit 0)))
  (.seq (.block 1 (.seq (io [em 16 t1, em 17 t2, ec 18 110 [t16, t17], em 10 t18])
  (.seq (.seq (io [em 19 t0, em 20 t10, eb 21 .leq t19 t20])
  (.cond t21
  (.seq (io [em 8 cf])
  .ret)
  .skip))
  (.seq (.seq (io [em 22 t0, em 23 t10, eb 24 .sub t22 t23, em 25 t1, eb 26 .geq t24 t25])
  (.cond t26
  (.seq (io [em 8 ct])
  .ret)
  .skip))
  (.ops [em 27 t1, em 28 t0, em 29 t10, eb 30 .sub t28 t29, eb 31 .sub t27 t30, em 1 t31])))))
  (.ops [em 14 t9, eb 15 .add t14 (ci 1), em 9 t15]))))))
  (.seq (io [em 8 cf])
  .ret)))
theorem hc_r3_PaysOff : compF Tryz.prog 32 Tryz.f139 = some (ic_r3_PaysOff, [.t 8]) := by kernel_rfl

theorem fn_r2_Civil : Tryz.prog.funcs[r2_Civil]? = some Tryz.f140 := Tryz.func140
theorem nt_r2_Civil : Tryz.f140.ntmps = 48 := Tryz.ntmps140
def ic_r2_Civil : IC := (.seq (io [.o 2 (.alloc (.st (zc (zc (zc .nil))))), em 3 cf])
  (.seq (.seq (io [em 8 t0, ec 9 160 [t8], .o 10 (.un .not t9)])
  (.cond t10
  (.seq (io [.o 11 (.build (.st (zc (zc (zc .nil)))) []), .n (.sto 3 t2 t11), em 3 cf])
  .ret)
  .skip))
  (.seq (io [em 12 t0, eb 13 .sub t12 (ci 1), eb 14 .quo t13 (ci 146097), em 4 t14])
  (.seq (io [em 15 t0, em 16 t4, eb 17 .mul t16 (ci 146097), eb 18 .sub t15 t17, em 5 t18])
  (.seq (io [em 19 t4, eb 20 .mul (ci 400) t19, eb 21 .add t20 (ci 1), em 6 t21])
  (.seq (.block 0 (.loop (.seq (.seq (io [em 22 t5, em 23 t6, ec 24 161 [t23], eb 25 .gtr t22 t24])
  (.cond t25
  .skip
  (.exit 0)))
  (.block 1 (.seq (io [em 26 t5, em 27 t6, ec 28 161 [t27], eb 29 .sub t26 t28, em 5 t29])
  (.ops [em 30 t6, eb 31 .add t30 (ci 1), em 6 t31]))))))
  (.seq (io [em 7 (ci 1)])
  (.seq (.block 2 (.loop (.seq (.seq (io [em 32 t5, em 33 t6, em 34 t7, ec 35 162 [t33, t34], eb 36 .gtr t32 t35])
  (.cond t36
  .skip
  (.exit 2)))
  (.block 3 (.seq (io [em 37 t5, em 38 t6, em 39 t7, ec 40 162 [t38, t39], eb 41 .sub t37 t40, em 5 t41])
  (.ops [em 42 t7, eb 43 .add t42 (ci 1), em 7 t43]))))))
  (.seq (io [em 44 t6, em 45 t7, em 46 t5, .o 47 (.build (.st (zc (zc (zc .nil)))) [(0, 0, 1, t44), (1, 1, 1, t45), (2, 2, 1, t46)]), .n (.sto 3 t2 t47), em 3 ct])
  .ret)))))))))
theorem hc_r2_Civil : compF Tryz.prog 48 Tryz.f140 = some (ic_r2_Civil, [.c 2 true 3, .t 3]) := by kernel_rfl

theorem fn_r2_AddMonths : Tryz.prog.funcs[r2_AddMonths]? = some Tryz.f141 := Tryz.func141
theorem nt_r2_AddMonths : Tryz.f141.ntmps = 78 := Tryz.ntmps141
def ic_r2_AddMonths : IC := (.seq (io [em 6 (ci 0), em 7 cf])
  (.seq (.seq (io [em 16 t0, ec 17 160 [t16], .o 18 (.un .not t17), em 19 t18, .og 20 19 false (.mv t2), .og 21 19 false (.bin .lss t20 (ci 1)), .o 22 (.pick t19 ct t21), em 23 t22, .og 24 23 false (.mv t2), .og 25 23 false (.bin .gtr t24 (ci 31)), .o 26 (.pick t23 ct t25), em 27 t26, .og 28 27 false (.mv t1), .og 29 27 false (.bin .lss t28 (ci (-119987))), .o 30 (.pick t27 ct t29), em 31 t30, .og 32 31 false (.mv t1), .og 33 31 false (.bin .gtr t32 (ci 119987)), .o 34 (.pick t31 ct t33)])
  (.cond t34
  (.seq (io [em 6 (ci 0), em 7 cf])
  .ret)
  .skip))
  (.seq (io [em 36 t0, ec 37 140 [t36], em 35 t37, ex 38 0 t35, ex 39 1 t35, .o 8 (.alloc (.st (zc (zc (zc .nil))))), .n (.sto 3 t8 t38), em 9 t39])
  (.seq (io [ef 40 0 0 t8, el 41 false 1 t40, eb 42 .sub t41 (ci 1), eb 43 .mul (ci 12) t42, ef 44 1 1 t8, el 45 false 1 t44, eb 46 .add t43 t45, eb 47 .sub t46 (ci 1), em 48 t1, eb 49 .add t47 t48, em 10 t49])
  (.seq (.seq (io [em 50 t10, eb 51 .lss t50 (ci 0), em 52 t51, .og 53 52 false (.mv t10), .og 54 52 false (.bin .geq t53 (ci 119988)), .o 55 (.pick t52 ct t54)])
  (.cond t55
  (.seq (io [em 6 (ci 0), em 7 cf])
  .ret)
  .skip))
  (.seq (io [em 56 t10, eb 57 .quo t56 (ci 12), eb 58 .add t57 (ci 1), em 11 t58])
  (.seq (io [em 59 t10, eb 60 .rem t59 (ci 12), eb 61 .add t60 (ci 1), em 12 t61])
  (.seq (io [em 62 t11, em 63 t12, ec 64 162 [t62, t63], em 13 t64])
  (.seq (.seq (io [em 65 t2, em 66 t13, eb 67 .lss t65 t66])
  (.cond t67
  (.ops [em 68 t2, em 13 t68])
  .skip))
  (.seq (io [em 70 t11, em 71 t12, em 72 t13, .o 73 (.build (.st (zc (zc (zc .nil)))) [(0, 0, 1, t70), (1, 1, 1, t71), (2, 2, 1, t72)]), ec 74 163 [t73], em 69 t74, ex 75 0 t69, ex 76 1 t69, em 14 t75, em 15 t76])
  (.seq (io [em 77 t14, em 6 t77, em 7 ct])
  .ret)))))))))))
theorem hc_r2_AddMonths : compF Tryz.prog 78 Tryz.f141 = some (ic_r2_AddMonths, [.t 6, .t 7]) := by kernel_rfl

theorem fn_r2_Adjust : Tryz.prog.funcs[r2_Adjust]? = some Tryz.f142 := Tryz.func142
theorem nt_r2_Adjust : Tryz.f142.ntmps = 65 := Tryz.ntmps142
def ic_r2_Adjust : IC := (.seq (io [em 6 (ci 0), em 7 cf])
  (.seq (.seq (io [em 14 t0, ec 15 160 [t14], .o 16 (.un .not t15)])
  (.cond t16
  (.seq (io [em 6 (ci 0), em 7 cf])
  .ret)
  .skip))
  (.seq (.seq (io [em 17 t2])
  (.block 0 (.seq (io [eb 19 .eql t17 (ci 0), em 18 t19])
  (.cond t18
  (.seq (io [em 20 t0, em 6 t20, em 7 ct])
  .ret)
  (.seq (io [eb 22 .eql t17 (ci 1), em 21 t22])
  (.cond t21
  (.seq (io [em 23 t0, em 24 t1, ec 25 164 [t23, t24, (ci 1)], ex 26 0 t25, ex 27 1 t25, em 6 t26, em 7 t27])
  .ret)
  (.seq (io [eb 29 .eql t17 (ci 2), em 28 t29])
  (.cond t28
  (.seq (io [em 30 t0, em 31 t1, ec 32 164 [t30, t31, (ci (-1))], ex 33 0 t32, ex 34 1 t32, em 6 t33, em 7 t34])
  .ret)
  (.seq (io [eb 36 .eql t17 (ci 3), em 35 t36])
  (.cond t35
  (.seq (io [em 38 t0, em 39 t1, ec 40 164 [t38, t39, (ci 1)], em 37 t40, ex 41 0 t37, ex 42 1 t37, em 8 t41, em 9 t42])
  (.seq (.seq (io [em 43 t9])
  (.cond t43
  (.seq (io [em 45 t0, ec 46 140 [t45], em 44 t46, ex 47 0 t44, ex 48 1 t44, .o 10 (.alloc (.st (zc (zc (zc .nil))))), .n (.sto 3 t10 t47), em 11 t48])
  (.seq (io [em 50 t8, ec 51 140 [t50], em 49 t51, ex 52 0 t49, ex 53 1 t49, .o 12 (.alloc (.st (zc (zc (zc .nil))))), .n (.sto 3 t12 t52), em 13 t53])
  (.seq (io [ef 54 1 1 t10, el 55 false 1 t54, ef 56 1 1 t12, el 57 false 1 t56, eb 58 .eql t55 t57])
  (.cond t58
  (.seq (io [em 59 t8, em 6 t59, em 7 ct])
  .ret)
  .skip))))
  .skip))
  (.seq (io [em 60 t0, em 61 t1, ec 62 164 [t60, t61, (ci (-1))], ex 63 0 t62, ex 64 1 t62, em 6 t63, em 7 t64])
  .ret)))
  .skip))))))))))
  (.seq (io [em 6 (ci 0), em 7 cf])
  .ret))))
theorem hc_r2_Adjust : compF Tryz.prog 65 Tryz.f142 = some (ic_r2_Adjust, [.t 6, .t 7]) := by kernel_rfl

theorem fn_r8_refused : Tryz.prog.funcs[r8_refused]? = some Tryz.f143 := Tryz.func143
theorem nt_r8_refused : Tryz.f143.ntmps = 23 := Tryz.ntmps143
def ic_r8_refused : IC := (.seq (io [.o 1 (.box t0), em 2 (ci 0)])
  (.seq (.seq (io [ef 3 0 0 t1, el 4 false 1 t3, ec 5 126 [t4], .o 6 (.un .not t5), em 7 t6, .og 8 7 false (.fa 1 1 t1), .og 9 7 false (.ld false 1 t8), .og 10 7 false (.call 126 [t9]), .og 11 7 false (.un .not t10), .o 12 (.pick t7 ct t11), em 13 t12, .og 14 13 false (.fa 0 0 t1), .og 15 13 false (.ld false 1 t14), .og 16 13 false (.fa 1 1 t1), .og 17 13 false (.ld false 1 t16), .og 18 13 false (.bin .eql t15 t17), .o 19 (.pick t13 ct t18)])
  (.cond t19
  (.seq (io [em 2 (ci 80)])
  .ret)
  .skip))
  (.seq (.seq (io [ef 20 2 2 t1, el 21 false 1 t20, eb 22 .lss t21 (ci 1)])
  (.cond t22
  (.seq (io [em 2 (ci 4)])
  .ret)
  .skip))
  (.seq (io [em 2 (ci 0)])
  .ret))))
theorem hc_r8_refused : compF Tryz.prog 23 Tryz.f143 = some (ic_r8_refused, [.t 2]) := by kernel_rfl

theorem fn_r1_Sum : Tryz.prog.funcs[r1_Sum]? = some Tryz.f144 := Tryz.func144
theorem nt_r1_Sum : Tryz.f144.ntmps = 32 := Tryz.ntmps144
def ic_r1_Sum : IC := (.seq (io [em 2 (ci 0), em 3 cf])
  (.seq (io [em 4 (ci 0), em 5 (ci 0)])
  (.seq (.seq (io [em 6 (ci 0)])
  (.block 0 (.loop (.seq (.seq (io [em 7 t6, em 8 t0, .o 9 (.len t8), eb 10 .lss t7 t9])
  (.cond t10
  .skip
  (.exit 0)))
  (.seq (.block 1 (.seq (io [em 13 t4, em 14 t0, em 15 t6, es 16 1 t14 t15, el 17 false 1 t16, ec 18 165 [t17], eb 19 .add t13 t18, em 4 t19])
  (.ops [em 20 t5, em 21 t0, em 22 t6, es 23 1 t21 t22, el 24 false 1 t23, ec 25 166 [t24], eb 26 .add t20 t25, em 5 t26])))
  (.ops [em 11 t6, eb 12 .add t11 (ci 1), em 6 t12]))))))
  (.seq (io [em 27 t4, em 28 t5, ec 29 167 [t27, t28], ex 30 0 t29, ex 31 1 t29, em 2 t30, em 3 t31])
  .ret))))
theorem hc_r1_Sum : compF Tryz.prog 32 Tryz.f144 = some (ic_r1_Sum, [.t 2, .t 3]) := by kernel_rfl

theorem fn_r8_moves : Tryz.prog.funcs[r8_moves]? = some Tryz.f145 := Tryz.func145
theorem nt_r8_moves : Tryz.f145.ntmps = 54 := Tryz.ntmps145
def ic_r8_moves : IC := (.seq (io [.o 3 (.box t0), em 6 (.c (.slice none 0 0))])
  (.seq (io [em 7 (.c (.slice none 0 0))])
  (.seq (io [em 9 t7, em 10 t2, ef 11 0 0 t3, .o 12 (.ixa 12 1 t11 t10), el 13 false 1 t12, .o 14 (.bsl 1 2 zi [(0, 0, 1, t13)]), .o 15 (.app 1 8 2 t9 t14), em 7 t15])
  (.seq (.seq (io [em 8 (ci 0)])
  (.block 0 (.loop (.seq (.seq (io [em 16 t8, em 17 t1, .o 18 (.len t17), eb 19 .lss t16 t18])
  (.cond t19
  .skip
  (.exit 0)))
  (.seq (.block 1 (.seq (.seq (io [em 22 t1, em 23 t8, es 24 3 t22 t23, ef 25 0 0 t24, el 26 false 1 t25, em 27 t2, eb 28 .eql t26 t27])
  (.cond t28
  (.ops [em 29 t7, em 30 t1, em 31 t8, es 32 3 t30 t31, ef 33 2 2 t32, el 34 false 1 t33, .o 35 (.bsl 1 2 zi [(0, 0, 1, t34)]), .o 36 (.app 1 8 2 t29 t35), em 7 t36])
  .skip))
  (.seq (io [em 37 t1, em 38 t8, es 39 3 t37 t38, ef 40 1 1 t39, el 41 false 1 t40, em 42 t2, eb 43 .eql t41 t42])
  (.cond t43
  (.ops [em 44 t7, em 45 t1, em 46 t8, es 47 3 t45 t46, ef 48 2 2 t47, el 49 false 1 t48, .o 50 (.un .neg t49), .o 51 (.bsl 1 2 zi [(0, 0, 1, t50)]), .o 52 (.app 1 8 2 t44 t51), em 7 t52])
  .skip))))
  (.ops [em 20 t8, eb 21 .add t20 (ci 1), em 8 t21]))))))
  (.seq (io [em 53 t7, em 6 t53])
  .ret)))))
theorem hc_r8_moves : compF Tryz.prog 54 Tryz.f145 = some (ic_r8_moves, [.t 6]) := by kernel_rfl

theorem fn_r8_OwnSide : Tryz.prog.funcs[r8_OwnSide]? = some Tryz.f146 := Tryz.func146
theorem nt_r8_OwnSide : Tryz.f146.ntmps = 11 := Tryz.ntmps146
def ic_r8_OwnSide : IC := (.seq (io [em 4 cf])
  (.seq (.seq (io [em 5 t0, ec 6 127 [t5]])
  (.cond t6
  (.seq (io [em 7 t1, eb 8 .geq t7 (ci 0), em 4 t8])
  .ret)
  .skip))
  (.seq (io [em 9 t1, eb 10 .leq t9 (ci 0), em 4 t10])
  .ret)))
theorem hc_r8_OwnSide : compF Tryz.prog 11 Tryz.f146 = some (ic_r8_OwnSide, [.t 4]) := by kernel_rfl

theorem fn_r3_Span : Tryz.prog.funcs[r3_Span]? = some Tryz.f147 := Tryz.func147
theorem nt_r3_Span : Tryz.f147.ntmps = 70 := Tryz.ntmps147
def ic_r3_Span : IC := (.seq (io [em 8 (ci 0), em 9 (ci 0), em 10 cf])
  (.seq (.seq (io [em 15 t0, eb 16 .lss t15 (ci 0), em 17 t16, .og 18 17 false (.mv t1), .og 19 17 false (.call 138 [t18]), .og 20 17 false (.un .not t19), .o 21 (.pick t17 ct t20), em 22 t21, .og 23 22 false (.mv t2), .og 24 22 false (.bin .lss t23 (ci 0)), .o 25 (.pick t22 ct t24), em 26 t25, .og 27 26 false (.mv t2), .og 28 26 false (.bin .geq t27 (ci 3650000)), .o 29 (.pick t26 ct t28), em 30 t29, .og 31 30 false (.mv t3), .og 32 30 false (.bin .lss t31 (ci 0)), .o 33 (.pick t30 ct t32), em 34 t33, .og 35 34 false (.mv t3), .og 36 34 false (.bin .gtr t35 (ci 3652059)), .o 37 (.pick t34 ct t36)])
  (.cond t37
  (.seq (io [em 8 (ci 0), em 9 (ci 0), em 10 cf])
  .ret)
  .skip))
  (.seq (io [em 38 t3, em 11 t38])
  (.seq (io [em 39 t0, eb 40 .quo t39 (ci 3650000), em 41 t1, eb 42 .mul t40 t41, em 12 t42])
  (.seq (io [em 43 t0, eb 44 .rem t43 (ci 3650000), em 45 t1, eb 46 .mul t44 t45, em 47 t11, eb 48 .mul t46 t47, em 49 t2, eb 50 .add t48 t49, em 13 t50])
  (.seq (io [em 51 t13, eb 52 .quo t51 (ci 3650000), em 14 t52])
  (.seq (.seq (io [em 53 t11, eb 54 .gtr t53 (ci 0), em 55 t54, .og 56 55 true (.mv t12), .og 57 55 true (.mv t14), .og 58 55 true (.bin .sub (ci 9223372036854775807) t57), .og 59 55 true (.mv t11), .og 60 55 true (.bin .quo t58 t59), .og 61 55 true (.bin .gtr t56 t60), .o 62 (.pick t55 t61 cf)])
  (.cond t62
  (.seq (io [em 8 (ci 0), em 9 (ci 0), em 10 cf])
  .ret)
  .skip))
  (.seq (io [em 63 t12, em 64 t11, eb 65 .mul t63 t64, em 66 t14, eb 67 .add t65 t66, em 68 t13, eb 69 .rem t68 (ci 3650000), em 8 t67, em 9 t69, em 10 ct])
  .ret))))))))
theorem hc_r3_Span : compF Tryz.prog 70 Tryz.f147 = some (ic_r3_Span, [.t 8, .t 9, .t 10]) := by kernel_rfl

theorem fn_r13_Step : Tryz.prog.funcs[r13_Step]? = some Tryz.f148 := Tryz.func148
theorem nt_r13_Step : Tryz.f148.ntmps = 55 := Tryz.ntmps148
def ic_r13_Step : IC := (.seq (io [.o 3 (.box t0), .o 4 (.box t1), .o 5 (.box t2), .o 6 (.alloc (.st (zc (zf (zc (zc (zc (zc (zc (zc (zc (zc (zc (zc (zc (zc (zc .nil))))))))))))))))), em 7 (.c (.slice none 0 0)), em 8 (ci 0)])
  (.seq (io [el 15 true 18 t3, ec 16 5 [t15], em 14 t16, ex 17 0 t14, ex 18 1 t14, em 9 t17, em 10 t18])
  (.seq (.seq (io [em 19 t9, eb 20 .neq t19 (ci 0)])
  (.cond t20
  (.seq (io [el 21 true 15 t4, .n (.sto 15 t6 t21), em 7 (.c (.slice none 0 0)), em 8 (ci 120)])
  .ret)
  .skip))
  (.seq (.seq (io [ef 22 0 0 t5, el 23 false 1 t22, eb 24 .lss t23 (ci 1), em 25 t24, .og 26 25 false (.fa 0 0 t5), .og 27 25 false (.ld false 1 t26), .og 28 25 false (.bin .gtr t27 (ci 7)), .o 29 (.pick t25 ct t28)])
  (.cond t29
  (.seq (io [el 30 true 15 t4, .n (.sto 15 t6 t30), em 7 (.c (.slice none 0 0)), em 8 (ci 2)])
  .ret)
  .skip))
  (.seq (io [el 31 true 18 t3, el 32 true 4 t5, ec 33 168 [t31, t32], em 11 t33])
  (.seq (.seq (io [em 34 t11, eb 35 .neq t34 (ci 0)])
  (.cond t35
  (.seq (io [el 36 true 15 t4, em 37 t11, .n (.sto 15 t6 t36), em 7 (.c (.slice none 0 0)), em 8 t37])
  .ret)
  .skip))
  (.seq (io [el 38 true 18 t3, el 39 true 15 t4, el 40 true 4 t5, ec 41 169 [t38, t39, t40], em 11 t41])
  (.seq (.seq (io [em 42 t11, eb 43 .neq t42 (ci 0)])
  (.cond t43
  (.seq (io [el 44 true 15 t4, em 45 t11, .n (.sto 15 t6 t44), em 7 (.c (.slice none 0 0)), em 8 t45])
  .ret)
  .skip))
  (.seq (io [el 47 true 18 t3, el 48 true 15 t4, el 49 true 4 t5, ec 50 170 [t47, t48, t49], em 46 t50, ex 51 0 t46, ex 52 1 t46, .o 12 (.alloc (.st (zc (zf (zc (zc (zc (zc (zc (zc (zc (zc (zc (zc (zc (zc (zc .nil))))))))))))))))), .n (.sto 15 t12 t51), em 13 t52])
  (.seq (io [el 53 true 15 t12, em 54 t13, .n (.sto 15 t6 t53), em 7 t54, em 8 (ci 0)])
  .ret))))))))))
theorem hc_r13_Step : compF Tryz.prog 55 Tryz.f148 = some (ic_r13_Step, [.c 6 true 15, .t 7, .t 8]) := by kernel_rfl

theorem fn_r14_acted : Tryz.prog.funcs[r14_acted]? = some Tryz.f149 := Tryz.func149
theorem nt_r14_acted : Tryz.f149.ntmps = 36 := Tryz.ntmps149
def ic_r14_acted : IC := (.seq (io [.o 2 (.box t0), .o 4 (.alloc (.st (.cons (.st (zc (zc (zc (zc (zc (zc (zc (zc (zc (zc (zc (zc (zc (zc (zc (zc (zc (.cons zs .nil))))))))))))))))))) (.cons (.st (zc (.cons (.st (zc (zc (zc (zc (zc (zc .nil))))))) (.cons zs (.cons (.st (.cons (.arr 12 1 fun _ => zi) .nil)) (.cons (.st (zc (zf (zc (zc (zc (zc (zc (zc (zc (zc (zc (zc (zc (zc (zc .nil)))))))))))))))) (zc (zc (zc (.cons (.st (zc (zc (zc (zc (zc .nil)))))) (zf (zc (zc .nil))))))))))))) (.cons (.st (zc (zc (zc (zc (zc .nil)))))) (.cons zs (zc .nil)))))))])
  (.seq (.seq (io [em 5 t1])
  (.block 0 (.seq (.seq (io [eb 7 .eql t5 (ci 1), em 6 t7])
  (.cond t6
  .skip
  (.seq (io [eb 8 .eql t5 (ci 2), em 6 t8])
  (.cond t6
  .skip
  (.ops [eb 9 .eql t5 (ci 3), em 6 t9])))))
  (.cond t6
  (.seq (.dops [el 10 true 71 t2, em 11 t1, ef 12 1 18 t2, el 13 true 46 t12, ec 14 43 [t13], ec 15 123 [t10, t11, t14], .n (.sto 71 t4 t15)])
  .ret)
  (.seq (io [eb 17 .eql t5 (ci 4), em 16 t17])
  (.cond t16
  (.seq (io [el 18 true 71 t2, ec 19 171 [t18], .n (.sto 71 t4 t19)])
  .ret)
  (.seq (io [eb 21 .eql t5 (ci 6), em 20 t21])
  (.cond t20
  (.seq (.dops [el 22 true 71 t2, ef 23 1 18 t2, el 24 true 46 t23, ec 25 45 [t24, (ci 5)], ec 26 84 [(.c (.slice none 0 0)), (ci 5), (ci 7), t25], ec 27 83 [t22, t26], .n (.sto 71 t2 t27)])
  (.seq (io [el 28 true 71 t2, ec 29 123 [t28, (ci 6), (ci 0)], .n (.sto 71 t4 t29)])
  .ret))
  (.seq (io [eb 31 .eql t5 (ci 8), em 30 t31])
  (.cond t30
  (.seq (io [el 32 true 71 t2, ec 33 122 [t32], ec 34 123 [t33, (ci 8), (ci 0)], .n (.sto 71 t4 t34)])
  .ret)
  .skip))))))))))
  (.seq (io [el 35 true 71 t2, .n (.sto 71 t4 t35)])
  .ret)))
theorem hc_r14_acted : compF Tryz.prog 36 Tryz.f149 = some (ic_r14_acted, [.c 4 true 71]) := by kernel_rfl

theorem fn_r13_Open : Tryz.prog.funcs[r13_Open]? = some Tryz.f150 := Tryz.func150
theorem nt_r13_Open : Tryz.f150.ntmps = 16 := Tryz.ntmps150
def ic_r13_Open : IC := (.seq (io [.o 1 (.box t0), em 2 cf])
  (.seq (io [ef 3 0 0 t1, el 4 false 1 t3, eb 5 .eql t4 (ci 3), em 6 t5, .og 7 6 false (.fa 0 0 t1), .og 8 6 false (.ld false 1 t7), .og 9 6 false (.bin .eql t8 (ci 4)), .o 10 (.pick t6 ct t9), em 11 t10, .og 12 11 false (.fa 0 0 t1), .og 13 11 false (.ld false 1 t12), .og 14 11 false (.bin .eql t13 (ci 5)), .o 15 (.pick t11 ct t14), em 2 t15])
  .ret))
theorem hc_r13_Open : compF Tryz.prog 16 Tryz.f150 = some (ic_r13_Open, [.t 2]) := by kernel_rfl

theorem fn_r10_Missed : Tryz.prog.funcs[r10_Missed]? = some Tryz.f151 := Tryz.func151
theorem nt_r10_Missed : Tryz.f151.ntmps = 46 := Tryz.ntmps151
def ic_r10_Missed : IC := (.seq (io [.o 5 (.box t1), em 8 (.c (.slice none 0 0))])
  (.seq (io [em 12 t0, ec 13 96 [t12], em 9 t13])
  (.seq (.seq (io [em 14 t3, eb 15 .lss t14 (ci 0)])
  (.cond t15
  (.ops [em 3 (ci 0)])
  .skip))
  (.seq (io [em 10 (.c (.slice none 0 0))])
  (.seq (.seq (io [em 16 t9, el 17 true 2 t5, ec 18 97 [t16, t17], em 11 t18])
  (.block 0 (.loop (.seq (.seq (io [em 19 t11, em 20 t9, .o 21 (.len t20), eb 22 .lss t19 t21])
  (.cond t22
  .skip
  (.exit 0)))
  (.seq (.block 1 (.seq (io [em 25 t9, em 26 t11, es 27 4 t25 t26, ef 28 3 3 t27, el 29 false 1 t28, .o 30 (.un .not t29), em 31 t30, .og 32 31 true (.mv t9), .og 33 31 true (.mv t11), .og 34 31 true (.ixs 4 t32 t33), .og 35 31 true (.ld true 4 t34), .og 36 31 true (.mv t2), .og 37 31 true (.call 128 [t35, t36]), .og 38 31 true (.mv t3), .og 39 31 true (.bin .gtr t37 t38), .o 40 (.pick t31 t39 cf)])
  (.cond t40
  (.ops [em 41 t10, em 42 t11, .o 43 (.bsl 1 3 zi [(0, 0, 1, t42)]), .o 44 (.app 1 8 3 t41 t43), em 10 t44])
  .skip)))
  (.ops [em 23 t11, eb 24 .add t23 (ci 1), em 11 t24]))))))
  (.seq (io [em 45 t10, em 8 t45])
  .ret))))))
theorem hc_r10_Missed : compF Tryz.prog 46 Tryz.f151 = some (ic_r10_Missed, [.t 8]) := by kernel_rfl

theorem fn_r12_Assess : Tryz.prog.funcs[r12_Assess]? = some Tryz.f152 := Tryz.func152
theorem nt_r12_Assess : Tryz.f152.ntmps = 37 := Tryz.ntmps152
def ic_r12_Assess : IC := (.seq (io [.o 4 (.box t0), em 8 (ci 0)])
  (.seq (.seq (io [el 10 true 18 t4, ec 11 172 [t10], .o 12 (.un .not t11)])
  (.cond t12
  (.seq (io [em 8 (ci 0)])
  .ret)
  .skip))
  (.seq (io [el 13 true 18 t4, em 14 t1, ec 15 173 [t13, t14], em 9 t15])
  (.seq (.seq (io [ef 16 7 7 t4, el 17 false 1 t16, em 18 t2, ec 19 174 [t17, t18], em 20 t9, eb 21 .lss t19 t20])
  (.cond t21
  (.ops [ef 22 7 7 t4, el 23 false 1 t22, em 24 t2, ec 25 174 [t23, t24], em 9 t25])
  .skip))
  (.seq (.seq (io [ef 26 8 8 t4, el 27 false 1 t26, em 28 t3, ec 29 174 [t27, t28], em 30 t9, eb 31 .lss t29 t30])
  (.cond t31
  (.ops [ef 32 8 8 t4, el 33 false 1 t32, em 34 t3, ec 35 174 [t33, t34], em 9 t35])
  .skip))
  (.seq (io [em 36 t9, em 8 t36])
  .ret))))))
theorem hc_r12_Assess : compF Tryz.prog 37 Tryz.f152 = some (ic_r12_Assess, [.t 8]) := by kernel_rfl

theorem fn_r10_Mark : Tryz.prog.funcs[r10_Mark]? = some Tryz.f153 := Tryz.func153
theorem nt_r10_Mark : Tryz.f153.ntmps = 37 := Tryz.ntmps153
def ic_r10_Mark : IC := (.seq (io [em 4 (.c (.slice none 0 0))])
  (.seq (io [em 5 (.c (.slice none 0 0))])
  (.seq (.seq (io [em 6 (ci 0)])
  (.block 0 (.loop (.seq (.seq (io [em 9 t6, em 10 t0, .o 11 (.len t10), eb 12 .lss t9 t11])
  (.cond t12
  .skip
  (.exit 0)))
  (.seq (.block 1 (.seq (io [em 15 t0, em 16 t6, es 17 4 t15 t16, el 18 true 4 t17, .o 7 (.alloc (.st (zc (zc (zc (zf .nil)))))), .n (.sto 4 t7 t18)])
  (.seq (.seq (io [em 8 (ci 0)])
  (.block 2 (.loop (.seq (.seq (io [em 19 t8, em 20 t1, .o 21 (.len t20), eb 22 .lss t19 t21])
  (.cond t22
  .skip
  (.exit 2)))
  (.seq (.block 3 (.seq (io [em 25 t1, em 26 t8, es 27 1 t25 t26, el 28 false 1 t27, em 29 t6, eb 30 .eql t28 t29])
  (.cond t30
  (.ops [ef 31 3 3 t7, .n (.sto 1 t31 ct)])
  .skip)))
  (.ops [em 23 t8, eb 24 .add t23 (ci 1), em 8 t24]))))))
  (.ops [em 32 t5, el 33 true 4 t7, .o 34 (.bsl 4 69 (.st (zc (zc (zc (zf .nil))))) [(0, 0, 4, t33)]), .o 35 (.app 4 32 69 t32 t34), em 5 t35]))))
  (.ops [em 13 t6, eb 14 .add t13 (ci 1), em 6 t14]))))))
  (.seq (io [em 36 t5, em 4 t36])
  .ret))))
theorem hc_r10_Mark : compF Tryz.prog 37 Tryz.f153 = some (ic_r10_Mark, [.t 4]) := by kernel_rfl

theorem fn_r9_Recover : Tryz.prog.funcs[r9_Recover]? = some Tryz.f154 := Tryz.func154
theorem nt_r9_Recover : Tryz.f154.ntmps = 25 := Tryz.ntmps154
def ic_r9_Recover : IC := (.seq (io [.o 4 (.alloc (.st (zc (zc (zc (zc (zc .nil))))))), em 5 (ci 0)])
  (.seq (io [.o 6 (.alloc (.st (zc (zc (zc (zc (zc .nil)))))))])
  (.seq (.seq (io [em 7 t0, eb 8 .lss t7 (ci 0)])
  (.cond t8
  (.seq (io [el 9 true 5 t6, .n (.sto 5 t4 t9), em 5 (ci 2)])
  .ret)
  .skip))
  (.seq (.seq (io [em 10 t1, eb 11 .lss t10 (ci 1)])
  (.cond t11
  (.seq (io [el 12 true 5 t6, .n (.sto 5 t4 t12), em 5 (ci 4)])
  .ret)
  .skip))
  (.seq (.seq (io [em 13 t1, em 14 t0, eb 15 .gtr t13 t14])
  (.cond t15
  (.seq (io [em 16 t0, ef 17 4 4 t6, .n (.sto 1 t17 t16)])
  (.ops [em 18 t1, em 19 t0, eb 20 .sub t18 t19, ef 21 3 3 t6, .n (.sto 1 t21 t20)]))
  (.ops [em 22 t1, ef 23 4 4 t6, .n (.sto 1 t23 t22)])))
  (.seq (io [el 24 true 5 t6, .n (.sto 5 t4 t24), em 5 (ci 0)])
  .ret))))))
theorem hc_r9_Recover : compF Tryz.prog 25 Tryz.f154 = some (ic_r9_Recover, [.c 4 true 5, .t 5]) := by kernel_rfl

theorem fn_r9_Allocate : Tryz.prog.funcs[r9_Allocate]? = some Tryz.f155 := Tryz.func155
theorem nt_r9_Allocate : Tryz.f155.ntmps = 61 := Tryz.ntmps155
def ic_r9_Allocate : IC := (.seq (io [.o 4 (.box t1), .o 6 (.alloc (.st (zc (zc (zc (zc (zc .nil))))))), em 7 (ci 0)])
  (.seq (io [.o 8 (.alloc (.st (zc (zc (zc (zc (zc .nil)))))))])
  (.seq (.seq (io [em 11 t0, ec 12 175 [t11, (ci 0)], eb 13 .lss t12 (ci 0), em 14 t13, .og 15 14 false (.fa 0 0 t4), .og 16 14 false (.ld false 1 t15), .og 17 14 false (.bin .lss t16 (ci 0)), .o 18 (.pick t14 ct t17), em 19 t18, .og 20 19 false (.fa 1 1 t4), .og 21 19 false (.ld false 1 t20), .og 22 19 false (.bin .lss t21 (ci 0)), .o 23 (.pick t19 ct t22), em 24 t23, .og 25 24 false (.fa 2 2 t4), .og 26 24 false (.ld false 1 t25), .og 27 24 false (.bin .lss t26 (ci 0)), .o 28 (.pick t24 ct t27)])
  (.cond t28
  (.seq (io [el 29 true 5 t8, .n (.sto 5 t6 t29), em 7 (ci 2)])
  .ret)
  .skip))
  (.seq (.seq (io [em 30 t2, eb 31 .lss t30 (ci 1)])
  (.cond t31
  (.seq (io [el 32 true 5 t8, .n (.sto 5 t6 t32), em 7 (ci 4)])
  .ret)
  .skip))
  (.seq (.seq (io [em 9 (ci 0)])
  (.block 0 (.loop (.seq (.seq (io [em 33 t9, eb 34 .lss t33 (ci 3)])
  (.cond t34
  .skip
  (.exit 0)))
  (.seq (.block 1 (.seq (io [em 37 t0, el 38 true 3 t4, em 39 t2, em 40 t9, ec 41 176 [t37, t38, t39, t40], em 10 t41])
  (.seq (io [em 42 t0, em 43 t9, ec 44 175 [t42, t43]])
  (.block 2 (.seq (io [eb 48 .eql t44 (ci 3), em 47 t48])
  (.cond t47
  (.ops [em 49 t10, ef 50 0 0 t8, .n (.sto 1 t50 t49)])
  (.seq (io [eb 52 .eql t44 (ci 2), em 51 t52])
  (.cond t51
  (.ops [em 53 t10, ef 54 1 1 t8, .n (.sto 1 t54 t53)])
  (.ops [em 45 t10, ef 46 2 2 t8, .n (.sto 1 t46 t45)])))))))))
  (.ops [em 35 t9, eb 36 .add t35 (ci 1), em 9 t36]))))))
  (.seq (io [em 55 t0, el 56 true 3 t4, em 57 t2, ec 58 176 [t55, t56, t57, (ci 3)], ef 59 3 3 t8, .n (.sto 1 t59 t58)])
  (.seq (io [el 60 true 5 t8, .n (.sto 5 t6 t60), em 7 (ci 0)])
  .ret)))))))
theorem hc_r9_Allocate : compF Tryz.prog 61 Tryz.f155 = some (ic_r9_Allocate, [.c 6 true 5, .t 7]) := by kernel_rfl

theorem fn_r9_moves : Tryz.prog.funcs[r9_moves]? = some Tryz.f156 := Tryz.func156
theorem nt_r9_moves : Tryz.f156.ntmps = 31 := Tryz.ntmps156
def ic_r9_moves : IC := (.seq (io [.o 2 (.box t0), em 4 (.c (.slice none 0 0))])
  (.seq (io [em 5 (.c (.slice none 0 0))])
  (.seq (io [em 6 t5, ef 7 0 0 t2, el 8 false 1 t7, em 9 t1, ec 10 177 [t6, (ci 3), t8, t9], em 5 t10])
  (.seq (io [em 11 t5, ef 12 1 1 t2, el 13 false 1 t12, em 14 t1, ec 15 177 [t11, (ci 2), t13, t14], em 5 t15])
  (.seq (io [em 16 t5, ef 17 2 2 t2, el 18 false 1 t17, em 19 t1, ec 20 177 [t16, (ci 1), t18, t19], em 5 t20])
  (.seq (io [em 21 t5, ef 22 3 3 t2, el 23 false 1 t22, em 24 t1, ec 25 177 [t21, (ci 4), t23, t24], em 5 t25])
  (.seq (io [em 26 t5, ef 27 4 4 t2, el 28 false 1 t27, em 29 t1, ec 30 177 [t26, (ci 10), t28, t29], em 4 t30])
  .ret)))))))
theorem hc_r9_moves : compF Tryz.prog 31 Tryz.f156 = some (ic_r9_moves, [.t 4]) := by kernel_rfl

theorem fn_r10_amounts : Tryz.prog.funcs[r10_amounts]? = some Tryz.f157 := Tryz.func157
theorem nt_r10_amounts : Tryz.f157.ntmps = 25 := Tryz.ntmps157
def ic_r10_amounts : IC := (.seq (io [em 2 (.c (.slice none 0 0))])
  (.seq (io [em 3 (.c (.slice none 0 0))])
  (.seq (.seq (io [em 4 (ci 0)])
  (.block 0 (.loop (.seq (.seq (io [em 5 t4, em 6 t0, .o 7 (.len t6), eb 8 .lss t5 t7])
  (.cond t8
  .skip
  (.exit 0)))
  (.seq (.block 1 (.dops [em 11 t3, em 12 t0, em 13 t4, es 14 4 t12 t13, ef 15 1 1 t14, el 16 false 1 t15, em 17 t0, em 18 t4, es 19 4 t17 t18, ef 20 2 2 t19, el 21 false 1 t20, .o 22 (.bsl 1 2 zi [(0, 0, 1, t16), (1, 1, 1, t21)]), .o 23 (.app 1 8 2 t11 t22), em 3 t23]))
  (.ops [em 9 t4, eb 10 .add t9 (ci 1), em 4 t10]))))))
  (.seq (io [em 24 t3, em 2 t24])
  .ret))))
theorem hc_r10_amounts : compF Tryz.prog 25 Tryz.f157 = some (ic_r10_amounts, [.t 2]) := by kernel_rfl

theorem fn_math_bits_TrailingZeros32 : Tryz.prog.funcs[math_bits_TrailingZeros32]? = some Tryz.f158 := Tryz.func158
theorem nt_math_bits_TrailingZeros32 : Tryz.f158.ntmps = 14 := Tryz.ntmps158
def ic_math_bits_TrailingZeros32 : IC := (.seq (io [em 2 (ci 0)])
  (.seq (.seq (io [em 3 t0, eb 4 .eql t3 (.c (.int .u32 0))])
  (.cond t4
  (.seq (io [em 2 (ci 32)])
  .ret)
  .skip))
  (.seq (io [em 5 t0, em 6 t0, .o 7 (.un .neg t6), eb 8 .and t5 t7, eb 9 .mul t8 (.c (.int .u32 125613361)), eb 10 .shr t9 (.c (.int .u64 27)), .o 11 (.ixa 32 1 (.g 2) t10), el 12 false 1 t11, .o 13 (.conv .i64 t12), em 2 t13])
  .ret)))
theorem hc_math_bits_TrailingZeros32 : compF Tryz.prog 14 Tryz.f158 = some (ic_math_bits_TrailingZeros32, [.t 2]) := by kernel_rfl

theorem fn_math_bits_TrailingZeros64 : Tryz.prog.funcs[math_bits_TrailingZeros64]? = some Tryz.f159 := Tryz.func159
theorem nt_math_bits_TrailingZeros64 : Tryz.f159.ntmps = 14 := Tryz.ntmps159
def ic_math_bits_TrailingZeros64 : IC := (.seq (io [em 2 (ci 0)])
  (.seq (.seq (io [em 3 t0, eb 4 .eql t3 (.c (.int .u64 0))])
  (.cond t4
  (.seq (io [em 2 (ci 64)])
  .ret)
  .skip))
  (.seq (io [em 5 t0, em 6 t0, .o 7 (.un .neg t6), eb 8 .and t5 t7, eb 9 .mul t8 (.c (.int .u64 285870213051353865)), eb 10 .shr t9 (.c (.int .u64 58)), .o 11 (.ixa 64 1 (.g 3) t10), el 12 false 1 t11, .o 13 (.conv .i64 t12), em 2 t13])
  .ret)))
theorem hc_math_bits_TrailingZeros64 : compF Tryz.prog 14 Tryz.f159 = some (ic_math_bits_TrailingZeros64, [.t 2]) := by kernel_rfl

theorem fn_r2_isDay : Tryz.prog.funcs[r2_isDay]? = some Tryz.f160 := Tryz.func160
theorem nt_r2_isDay : Tryz.f160.ntmps = 9 := Tryz.ntmps160
def ic_r2_isDay : IC := (.seq (io [em 2 cf])
  (.seq (io [em 3 t0, eb 4 .geq t3 (ci 1), em 5 t4, .og 6 5 true (.mv t0), .og 7 5 true (.bin .leq t6 (ci 3652059)), .o 8 (.pick t5 t7 cf), em 2 t8])
  .ret))
theorem hc_r2_isDay : compF Tryz.prog 9 Tryz.f160 = some (ic_r2_isDay, [.t 2]) := by kernel_rfl

theorem fn_r2_yearLen : Tryz.prog.funcs[r2_yearLen]? = some Tryz.f161 := Tryz.func161
theorem nt_r2_yearLen : Tryz.f161.ntmps = 5 := Tryz.ntmps161
def ic_r2_yearLen : IC := (.seq (io [em 2 (ci 0)])
  (.seq (.seq (io [em 3 t0, ec 4 178 [t3]])
  (.cond t4
  (.seq (io [em 2 (ci 366)])
  .ret)
  .skip))
  (.seq (io [em 2 (ci 365)])
  .ret)))
theorem hc_r2_yearLen : compF Tryz.prog 5 Tryz.f161 = some (ic_r2_yearLen, [.t 2]) := by kernel_rfl

theorem fn_r2_lenOf : Tryz.prog.funcs[r2_lenOf]? = some Tryz.f162 := Tryz.func162
theorem nt_r2_lenOf : Tryz.f162.ntmps = 15 := Tryz.ntmps162
def ic_r2_lenOf : IC := (.seq (io [em 4 (ci 0)])
  (.seq (.seq (io [em 5 t1])
  (.block 0 (.seq (io [eb 7 .eql t5 (ci 2), em 6 t7])
  (.cond t6
  (.seq (.seq (io [em 8 t0, ec 9 178 [t8]])
  (.cond t9
  (.seq (io [em 4 (ci 29)])
  .ret)
  .skip))
  (.seq (io [em 4 (ci 28)])
  .ret))
  (.seq (.seq (io [eb 11 .eql t5 (ci 4), em 10 t11])
  (.cond t10
  .skip
  (.seq (io [eb 12 .eql t5 (ci 6), em 10 t12])
  (.cond t10
  .skip
  (.seq (io [eb 13 .eql t5 (ci 9), em 10 t13])
  (.cond t10
  .skip
  (.ops [eb 14 .eql t5 (ci 11), em 10 t14])))))))
  (.cond t10
  (.seq (io [em 4 (ci 30)])
  .ret)
  .skip))))))
  (.seq (io [em 4 (ci 31)])
  .ret)))
theorem hc_r2_lenOf : compF Tryz.prog 15 Tryz.f162 = some (ic_r2_lenOf, [.t 4]) := by kernel_rfl

theorem fn_r2_Number : Tryz.prog.funcs[r2_Number]? = some Tryz.f163 := Tryz.func163
theorem nt_r2_Number : Tryz.f163.ntmps = 56 := Tryz.ntmps163
def ic_r2_Number : IC := (.seq (io [.o 1 (.box t0), em 2 (ci 0), em 3 cf])
  (.seq (.seq (.dops [ef 8 2 2 t1, el 9 false 1 t8, eb 10 .lss t9 (ci 1), em 11 t10, .og 12 11 false (.fa 2 2 t1), .og 13 11 false (.ld false 1 t12), .og 14 11 false (.fa 0 0 t1), .og 15 11 false (.ld false 1 t14), .og 16 11 false (.fa 1 1 t1), .og 17 11 false (.ld false 1 t16), .og 18 11 false (.call 179 [t15, t17]), .og 19 11 false (.bin .gtr t13 t18), .o 20 (.pick t11 ct t19)])
  (.cond t20
  (.seq (io [em 2 (ci 0), em 3 cf])
  .ret)
  .skip))
  (.seq (io [ef 21 0 0 t1, el 22 false 1 t21, eb 23 .sub t22 (ci 1), eb 24 .quo t23 (ci 400), em 4 t24])
  (.seq (io [em 25 t4, eb 26 .mul t25 (ci 146097), em 5 t26])
  (.seq (.seq (io [em 27 t4, eb 28 .mul (ci 400) t27, eb 29 .add t28 (ci 1), em 6 t29])
  (.block 0 (.loop (.seq (.seq (io [em 30 t6, ef 31 0 0 t1, el 32 false 1 t31, eb 33 .lss t30 t32])
  (.cond t33
  .skip
  (.exit 0)))
  (.seq (.block 1 (.ops [em 36 t5, em 37 t6, ec 38 161 [t37], eb 39 .add t36 t38, em 5 t39]))
  (.ops [em 34 t6, eb 35 .add t34 (ci 1), em 6 t35]))))))
  (.seq (.seq (io [em 7 (ci 1)])
  (.block 2 (.loop (.seq (.seq (io [em 40 t7, ef 41 1 1 t1, el 42 false 1 t41, eb 43 .lss t40 t42])
  (.cond t43
  .skip
  (.exit 2)))
  (.seq (.block 3 (.ops [em 46 t5, ef 47 0 0 t1, el 48 false 1 t47, em 49 t7, ec 50 162 [t48, t49], eb 51 .add t46 t50, em 5 t51]))
  (.ops [em 44 t7, eb 45 .add t44 (ci 1), em 7 t45]))))))
  (.seq (io [em 52 t5, ef 53 2 2 t1, el 54 false 1 t53, eb 55 .add t52 t54, em 2 t55, em 3 ct])
  .ret)))))))
theorem hc_r2_Number : compF Tryz.prog 56 Tryz.f163 = some (ic_r2_Number, [.t 2, .t 3]) := by kernel_rfl

theorem fn_r2_sought : Tryz.prog.funcs[r2_sought]? = some Tryz.f164 := Tryz.func164
theorem nt_r2_sought : Tryz.f164.ntmps = 25 := Tryz.ntmps164
def ic_r2_sought : IC := (.seq (io [em 6 (ci 0), em 7 cf])
  (.seq (.seq (io [em 8 (ci 0)])
  (.block 0 (.loop (.seq (.seq (io [em 9 t8, eb 10 .leq t9 (ci 10)])
  (.cond t10
  .skip
  (.exit 0)))
  (.seq (.block 1 (.seq (io [em 13 t0, em 14 t8, em 15 t2, eb 16 .mul t14 t15, eb 17 .add t13 t16, em 18 t1, ec 19 180 [t17, t18]])
  (.cond t19
  (.seq (io [em 20 t0, em 21 t8, em 22 t2, eb 23 .mul t21 t22, eb 24 .add t20 t23, em 6 t24, em 7 ct])
  .ret)
  .skip)))
  (.ops [em 11 t8, eb 12 .add t11 (ci 1), em 8 t12]))))))
  (.seq (io [em 6 (ci 0), em 7 cf])
  .ret)))
theorem hc_r2_sought : compF Tryz.prog 25 Tryz.f164 = some (ic_r2_sought, [.t 6, .t 7]) := by kernel_rfl

theorem fn_r1_high : Tryz.prog.funcs[r1_high]? = some Tryz.f165 := Tryz.func165
theorem nt_r1_high : Tryz.f165.ntmps = 5 := Tryz.ntmps165
def ic_r1_high : IC := (.seq (io [em 2 (ci 0)])
  (.seq (io [em 3 t0, eb 4 .shr t3 (.c (.int .u64 32)), em 2 t4])
  .ret))
theorem hc_r1_high : compF Tryz.prog 5 Tryz.f165 = some (ic_r1_high, [.t 2]) := by kernel_rfl

end Go.Proofs.YtaomkjcclcgdlaaGreatDoor
