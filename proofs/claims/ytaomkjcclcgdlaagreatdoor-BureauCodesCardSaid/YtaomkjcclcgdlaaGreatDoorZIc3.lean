/- The given functions as the walk reads them, continued. No condition. -/
import Derived.Test.YtaomkjcclcgdlaaGreatDoorZIc2
set_option linter.all false
namespace Go.Proofs.YtaomkjcclcgdlaaGreatDoor
open Go Ar
set_option linter.unusedVariables false
set_option maxRecDepth 100000

theorem fn_r1_lowOf : Tryz.prog.funcs[r1_lowOf]? = some Tryz.f166 := Tryz.func166
theorem nt_r1_lowOf : Tryz.f166.ntmps = 8 := Tryz.ntmps166
def ic_r1_lowOf : IC := (.seq (io [em 2 (ci 0)])
  (.seq (io [em 3 t0, em 4 t0, ec 5 165 [t4], eb 6 .mul t5 (ci 4294967296), eb 7 .sub t3 t6, em 2 t7])
  .ret))
theorem hc_r1_lowOf : compF Tryz.prog 8 Tryz.f166 = some (ic_r1_lowOf, [.t 2]) := by kernel_rfl

theorem fn_r1_joined : Tryz.prog.funcs[r1_joined]? = some Tryz.f167 := Tryz.func167
theorem nt_r1_joined : Tryz.f167.ntmps = 26 := Tryz.ntmps167
def ic_r1_joined : IC := (.seq (io [em 4 (ci 0), em 5 cf])
  (.seq (io [em 7 t1, eb 8 .shr t7 (.c (.int .u64 32)), em 6 t8])
  (.seq (io [em 9 t0, em 10 t6, eb 11 .add t9 t10, em 0 t11])
  (.seq (io [em 12 t1, em 13 t6, eb 14 .mul t13 (ci 4294967296), eb 15 .sub t12 t14, em 1 t15])
  (.seq (.seq (io [em 16 t0, eb 17 .lss t16 (ci (-2147483648)), em 18 t17, .og 19 18 false (.mv t0), .og 20 18 false (.bin .gtr t19 (ci 2147483647)), .o 21 (.pick t18 ct t20)])
  (.cond t21
  (.seq (io [em 4 (ci 0), em 5 cf])
  .ret)
  .skip))
  (.seq (io [em 22 t0, eb 23 .mul t22 (ci 4294967296), em 24 t1, eb 25 .add t23 t24, em 4 t25, em 5 ct])
  .ret))))))
theorem hc_r1_joined : compF Tryz.prog 26 Tryz.f167 = some (ic_r1_joined, [.t 4, .t 5]) := by kernel_rfl

theorem fn_r13_numbers : Tryz.prog.funcs[r13_numbers]? = some Tryz.f168 := Tryz.func168
theorem nt_r13_numbers : Tryz.f168.ntmps = 58 := Tryz.ntmps168
def ic_r13_numbers : IC := (.seq (io [.o 2 (.box t0), .o 3 (.box t1), em 4 (ci 0)])
  (.seq (io [ef 6 1 1 t3, el 7 false 1 t6, eb 8 .geq t7 (ci 1), em 9 t8, .og 10 9 true (.fa 1 1 t3), .og 11 9 true (.ld false 1 t10), .og 12 9 true (.bin .leq t11 (ci 3652059)), .o 13 (.pick t9 t12 cf), em 5 t13])
  (.seq (.seq (io [ef 14 0 0 t3, el 15 false 1 t14])
  (.block 0 (.seq (io [eb 17 .eql t15 (ci 1), em 16 t17])
  (.cond t16
  (.seq (io [em 18 t5, .o 19 (.un .not t18), em 20 t19, .og 21 20 false (.fa 2 2 t3), .og 22 20 false (.ld false 1 t21), .og 23 20 false (.bin .lss t22 (ci 0)), .o 24 (.pick t20 ct t23)])
  (.cond t24
  (.seq (io [em 4 (ci 2)])
  .ret)
  .skip))
  (.seq (io [eb 26 .eql t15 (ci 2), em 25 t26])
  (.cond t25
  (.seq (.seq (io [ef 27 3 3 t3, el 28 false 1 t27, eb 29 .lss t28 (ci 1)])
  (.cond t29
  (.seq (io [em 4 (ci 4)])
  .ret)
  .skip))
  (.seq (io [ef 30 2 2 t3, el 31 false 1 t30, eb 32 .lss t31 (ci 0)])
  (.cond t32
  (.seq (io [em 4 (ci 2)])
  .ret)
  .skip)))
  (.seq (.seq (io [eb 34 .eql t15 (ci 3), em 33 t34])
  (.cond t33
  .skip
  (.ops [eb 35 .eql t15 (ci 6), em 33 t35])))
  (.cond t33
  (.seq (io [ef 36 3 3 t3, el 37 false 1 t36, eb 38 .lss t37 (ci 1)])
  (.cond t38
  (.seq (io [em 4 (ci 4)])
  .ret)
  .skip))
  (.seq (io [eb 40 .eql t15 (ci 4), em 39 t40])
  (.cond t39
  (.seq (.seq (io [em 41 t5, .o 42 (.un .not t41), em 43 t42, .og 44 43 false (.fa 2 2 t3), .og 45 43 false (.ld false 1 t44), .og 46 43 false (.bin .lss t45 (ci 1)), .o 47 (.pick t43 ct t46), em 48 t47, .og 49 48 false (.fa 2 2 t3), .og 50 48 false (.ld false 1 t49), .og 51 48 false (.fa 10 10 t2), .og 52 48 false (.ld false 1 t51), .og 53 48 false (.bin .gtr t50 t52), .o 54 (.pick t48 ct t53)])
  (.cond t54
  (.seq (io [em 4 (ci 2)])
  .ret)
  .skip))
  (.seq (io [ef 55 3 3 t3, el 56 false 1 t55, eb 57 .lss t56 (ci 1)])
  (.cond t57
  (.seq (io [em 4 (ci 4)])
  .ret)
  .skip)))
  .skip))))))))))
  (.seq (io [em 4 (ci 0)])
  .ret))))
theorem hc_r13_numbers : compF Tryz.prog 58 Tryz.f168 = some (ic_r13_numbers, [.t 4]) := by kernel_rfl

theorem fn_r13_standing : Tryz.prog.funcs[r13_standing]? = some Tryz.f169 := Tryz.func169
theorem nt_r13_standing : Tryz.f169.ntmps = 89 := Tryz.ntmps169
def ic_r13_standing : IC := (.seq (io [.o 3 (.box t0), .o 4 (.box t1), .o 5 (.box t2), em 6 (ci 0)])
  (.seq (.seq (io [ef 7 0 0 t4, el 8 false 1 t7, eb 9 .eql t8 (ci 8), em 10 t9, .og 11 10 false (.fa 0 0 t4), .og 12 10 false (.ld false 1 t11), .og 13 10 false (.bin .eql t12 (ci 9)), .o 14 (.pick t10 ct t13)])
  (.cond t14
  (.seq (io [em 6 (ci 130)])
  .ret)
  .skip))
  (.seq (.seq (io [ef 15 0 0 t5, el 16 false 1 t15, eb 17 .eql t16 (ci 4), em 18 t17, .og 19 18 false (.fa 0 0 t5), .og 20 18 false (.ld false 1 t19), .og 21 18 false (.bin .eql t20 (ci 5)), .o 22 (.pick t18 ct t21), em 23 t22, .og 24 23 false (.fa 0 0 t5), .og 25 23 false (.ld false 1 t24), .og 26 23 false (.bin .eql t25 (ci 6)), .o 27 (.pick t23 ct t26), em 28 t27, .og 29 28 true (.ld true 15 t4), .og 30 28 true (.call 150 [t29]), .og 31 28 true (.un .not t30), .o 32 (.pick t28 t31 cf)])
  (.cond t32
  (.seq (io [em 6 (ci 131)])
  .ret)
  .skip))
  (.seq (.seq (io [ef 33 0 0 t5, el 34 false 1 t33, eb 35 .eql t34 (ci 4), em 36 t35, .og 37 36 false (.fa 0 0 t5), .og 38 36 false (.ld false 1 t37), .og 39 36 false (.bin .eql t38 (ci 6)), .o 40 (.pick t36 ct t39), em 41 t40, .og 42 41 true (.fa 0 0 t4), .og 43 41 true (.ld false 1 t42), .og 44 41 true (.bin .eql t43 (ci 4)), .o 45 (.pick t41 t44 cf)])
  (.cond t45
  (.seq (io [em 6 (ci 132)])
  .ret)
  .skip))
  (.seq (.seq (io [ef 46 0 0 t5, el 47 false 1 t46, eb 48 .eql t47 (ci 4), em 49 t48, .og 50 49 true (.fa 5 5 t4), .og 51 49 true (.ld false 1 t50), .og 52 49 true (.fa 9 9 t3), .og 53 49 true (.ld false 1 t52), .og 54 49 true (.bin .geq t51 t53), .o 55 (.pick t49 t54 cf)])
  (.cond t55
  (.seq (io [em 6 (ci 133)])
  .ret)
  .skip))
  (.seq (.seq (io [ef 56 0 0 t5, el 57 false 1 t56, eb 58 .eql t57 (ci 5), em 59 t58, .og 60 59 true (.fa 12 12 t4), .og 61 59 true (.ld false 1 t60), .og 62 59 true (.fa 11 11 t3), .og 63 59 true (.ld false 1 t62), .og 64 59 true (.bin .geq t61 t63), .o 65 (.pick t59 t64 cf)])
  (.cond t65
  (.seq (io [em 6 (ci 133)])
  .ret)
  .skip))
  (.seq (.seq (io [ef 66 0 0 t5, el 67 false 1 t66, eb 68 .eql t67 (ci 6), em 69 t68, .og 70 69 true (.fa 13 13 t4), .og 71 69 true (.ld false 1 t70), .og 72 69 true (.fa 3 3 t5), .og 73 69 true (.ld false 1 t72), .og 74 69 true (.fa 7 7 t3), .og 75 69 true (.ld false 1 t74), .og 76 69 true (.call 181 [t71, t73, t75]), .og 77 69 true (.un .not t76), .og 78 69 true (.mv t77), .og 79 78 false (.fa 14 14 t4), .og 80 78 false (.ld false 1 t79), .og 81 78 false (.fa 3 3 t5), .og 82 78 false (.ld false 1 t81), .og 83 78 false (.fa 8 8 t3), .og 84 78 false (.ld false 1 t83), .og 85 78 false (.call 181 [t80, t82, t84]), .og 86 78 false (.un .not t85), .og 87 69 true (.pick t78 ct t86), .o 88 (.pick t69 t87 cf)])
  (.cond t88
  (.seq (io [em 6 (ci 133)])
  .ret)
  .skip))
  (.seq (io [em 6 (ci 0)])
  .ret))))))))
theorem hc_r13_standing : compF Tryz.prog 89 Tryz.f169 = some (ic_r13_standing, [.t 6]) := by kernel_rfl

theorem fn_r13_taken : Tryz.prog.funcs[r13_taken]? = some Tryz.f170 := Tryz.func170
theorem nt_r13_taken : Tryz.f170.ntmps = 92 := Tryz.ntmps170
def ic_r13_taken : IC := (.seq (io [.o 3 (.box t0), .o 4 (.box t1), .o 5 (.box t2), .o 6 (.alloc (.st (zc (zf (zc (zc (zc (zc (zc (zc (zc (zc (zc (zc (zc (zc (zc .nil))))))))))))))))), em 7 (.c (.slice none 0 0))])
  (.seq (.seq (io [ef 9 0 0 t5, el 10 false 1 t9])
  (.block 0 (.seq (io [eb 12 .eql t10 (ci 1), em 11 t12])
  (.cond t11
  (.seq (io [el 13 true 18 t3, el 14 true 15 t4, el 15 true 4 t5, ec 16 182 [t13, t14, t15], ex 17 0 t16, ex 18 1 t16, .n (.sto 15 t6 t17), em 7 t18])
  .ret)
  (.seq (io [eb 20 .eql t10 (ci 2), em 19 t20])
  (.cond t19
  (.seq (io [el 21 true 15 t4, el 22 true 4 t5, ec 23 183 [t21, t22], ex 24 0 t23, ex 25 1 t23, .n (.sto 15 t6 t24), em 7 t25])
  .ret)
  (.seq (io [eb 27 .eql t10 (ci 3), em 26 t27])
  (.cond t26
  (.seq (io [el 28 true 15 t4, el 29 true 4 t5, ec 30 184 [t28, t29], .n (.sto 15 t6 t30), em 7 (.c (.slice none 0 0))])
  .ret)
  (.seq (io [eb 32 .eql t10 (ci 4), em 31 t32])
  (.cond t31
  (.seq (io [ef 33 5 5 t4, el 34 false 1 t33, eb 35 .add t34 (ci 1), ef 36 5 5 t4, .n (.sto 1 t36 t35)])
  (.seq (io [ef 37 1 1 t5, el 38 false 1 t37, ef 39 2 2 t5, el 40 false 1 t39, eb 41 .add t38 t40, ef 42 6 6 t4, .n (.sto 1 t42 t41)])
  (.seq (io [ef 43 3 3 t5, el 44 false 1 t43, ef 45 7 7 t4, .n (.sto 1 t45 t44)])
  (.seq (io [ef 46 8 8 t4, .n (.sto 1 t46 (ci 0))])
  (.seq (io [ef 47 4 4 t4, el 48 false 1 t47, ef 49 2 2 t5, el 50 false 1 t49, eb 51 .add t48 t50, ef 52 4 4 t4, .n (.sto 1 t52 t51)])
  (.seq (io [ef 53 0 0 t4, .n (.sto 1 t53 (ci 4))])
  (.seq (io [el 54 true 15 t4, .n (.sto 15 t6 t54), em 7 (.c (.slice none 0 0))])
  .ret)))))))
  (.seq (io [eb 56 .eql t10 (ci 5), em 55 t56])
  (.cond t55
  (.seq (io [ef 57 12 12 t4, el 58 false 1 t57, eb 59 .add t58 (ci 1), ef 60 12 12 t4, .n (.sto 1 t60 t59)])
  (.seq (io [el 61 true 15 t4, ec 62 185 [t61, (ci 7)], .o 63 (.bsl 1 3 zi [(0, 0, 1, (ci 7))]), .n (.sto 15 t6 t62), em 7 t63])
  .ret))
  (.seq (io [eb 65 .eql t10 (ci 6), em 64 t65])
  (.cond t64
  (.seq (io [ef 66 13 13 t4, el 67 false 1 t66, ef 68 3 3 t5, el 69 false 1 t68, eb 70 .add t67 t69, ef 71 13 13 t4, .n (.sto 1 t71 t70)])
  (.seq (io [ef 72 14 14 t4, el 73 false 1 t72, ef 74 3 3 t5, el 75 false 1 t74, eb 76 .add t73 t75, ef 77 14 14 t4, .n (.sto 1 t77 t76)])
  (.seq (io [el 78 true 15 t4, .n (.sto 15 t6 t78), em 7 (.c (.slice none 0 0))])
  .ret)))
  .skip))))))))))))))
  (.seq (io [em 8 (.c (.slice none 0 0))])
  (.seq (.seq (io [el 79 true 15 t4, ec 80 150 [t79]])
  (.cond t80
  (.seq (io [el 81 true 15 t4, ec 82 186 [t81], .n (.sto 15 t4 t82)])
  (.ops [em 83 t8, .o 84 (.bsl 1 3 zi [(0, 0, 1, (ci 6))]), .o 85 (.app 1 8 3 t83 t84), em 8 t85]))
  .skip))
  (.seq (io [ef 86 0 0 t4, .n (.sto 1 t86 (ci 9))])
  (.seq (io [em 87 t8, .o 88 (.bsl 1 3 zi [(0, 0, 1, (ci 8))]), .o 89 (.app 1 8 3 t87 t88), em 8 t89])
  (.seq (io [el 90 true 15 t4, em 91 t8, .n (.sto 15 t6 t90), em 7 t91])
  .ret)))))))
theorem hc_r13_taken : compF Tryz.prog 92 Tryz.f170 = some (ic_r13_taken, [.c 6 true 15, .t 7]) := by kernel_rfl

theorem fn_r14_given : Tryz.prog.funcs[r14_given]? = some Tryz.f171 := Tryz.func171
theorem nt_r14_given : Tryz.f171.ntmps = 55 := Tryz.ntmps171
def ic_r14_given : IC := (.seq (io [.o 1 (.box t0), .o 2 (.alloc (.st (.cons (.st (zc (zc (zc (zc (zc (zc (zc (zc (zc (zc (zc (zc (zc (zc (zc (zc (zc (.cons zs .nil))))))))))))))))))) (.cons (.st (zc (.cons (.st (zc (zc (zc (zc (zc (zc .nil))))))) (.cons zs (.cons (.st (.cons (.arr 12 1 fun _ => zi) .nil)) (.cons (.st (zc (zf (zc (zc (zc (zc (zc (zc (zc (zc (zc (zc (zc (zc (zc .nil)))))))))))))))) (zc (zc (zc (.cons (.st (zc (zc (zc (zc (zc .nil)))))) (zf (zc (zc .nil))))))))))))) (.cons (.st (zc (zc (zc (zc (zc .nil)))))) (.cons zs (zc .nil)))))))])
  (.seq (io [ef 7 1 18 t1, el 8 true 46 t7, ec 9 124 [t8], .o 3 (.alloc (.st (zc (zc (zc .nil))))), .n (.sto 3 t3 t9)])
  (.seq (io [ef 10 1 18 t1, el 11 true 46 t10, ec 12 45 [t11, (ci 5)], em 4 t12])
  (.seq (io [em 13 t4, em 5 t13])
  (.seq (.seq (io [ef 14 1 1 t3, el 15 false 1 t14, em 16 t5, eb 17 .lss t15 t16])
  (.cond t17
  (.ops [ef 18 1 1 t3, el 19 false 1 t18, em 5 t19])
  .skip))
  (.seq (io [el 20 true 3 t3, ec 21 125 [t20], ef 22 1 18 t1, ef 23 10 44 t22, .n (.sto 1 t23 t21)])
  (.seq (io [em 6 (.c (.slice none 0 0))])
  (.seq (io [em 24 t6, em 25 t5, ec 26 84 [t24, (ci 5), (ci 2), t25], em 6 t26])
  (.seq (io [em 27 t6, em 28 t4, em 29 t5, eb 30 .sub t28 t29, ec 31 84 [t27, (ci 5), (ci 7), t30], em 6 t31])
  (.seq (io [em 32 t6, ef 33 2 2 t3, el 34 false 1 t33, ec 35 84 [t32, (ci 9), (ci 1), t34], em 6 t35])
  (.seq (io [em 36 t6, ef 37 1 1 t3, el 38 false 1 t37, em 39 t5, eb 40 .sub t38 t39, ec 41 84 [t36, (ci 9), (ci 2), t40], em 6 t41])
  (.seq (io [em 42 t6, ef 43 0 0 t3, el 44 false 1 t43, ec 45 84 [t42, (ci 9), (ci 3), t44], em 6 t45])
  (.seq (io [el 46 true 71 t1, em 47 t6, ec 48 83 [t46, t47], .n (.sto 71 t1 t48)])
  (.seq (.dops [el 49 true 71 t1, ec 50 122 [t49], ef 51 1 18 t1, ef 52 10 44 t51, el 53 false 1 t52, ec 54 123 [t50, (ci 4), t53], .n (.sto 71 t2 t54)])
  .ret))))))))))))))
theorem hc_r14_given : compF Tryz.prog 55 Tryz.f171 = some (ic_r14_given, [.c 2 true 71]) := by kernel_rfl

theorem fn_r12_good : Tryz.prog.funcs[r12_good]? = some Tryz.f172 := Tryz.func172
theorem nt_r12_good : Tryz.f172.ntmps = 12 := Tryz.ntmps172
def ic_r12_good : IC := (.seq (io [.o 1 (.box t0), em 2 cf])
  (.seq (io [el 6 true 18 t1, ec 7 5 [t6], em 5 t7, ex 8 0 t5, ex 9 1 t5, em 3 t8, em 4 t9])
  (.seq (io [em 10 t3, eb 11 .eql t10 (ci 0), em 2 t11])
  .ret)))
theorem hc_r12_good : compF Tryz.prog 12 Tryz.f172 = some (ic_r12_good, [.t 2]) := by kernel_rfl

theorem fn_r12_LateFee : Tryz.prog.funcs[r12_LateFee]? = some Tryz.f173 := Tryz.func173
theorem nt_r12_LateFee : Tryz.f173.ntmps = 34 := Tryz.ntmps173
def ic_r12_LateFee : IC := (.seq (io [.o 2 (.box t0), em 4 (ci 0)])
  (.seq (.seq (io [el 7 true 18 t2, ec 8 172 [t7], .o 9 (.un .not t8), em 10 t9, .og 11 10 false (.mv t1), .og 12 10 false (.bin .lss t11 (ci 0)), .o 13 (.pick t10 ct t12)])
  (.cond t13
  (.seq (io [em 4 (ci 0)])
  .ret)
  .skip))
  (.seq (io [em 15 t1, ef 16 4 4 t2, el 17 false 1 t16, ec 18 187 [t15, t17], em 14 t18, ex 19 0 t14, ex 20 1 t14, em 5 t19, em 6 t20])
  (.seq (.seq (io [em 21 t5, ef 22 5 5 t2, el 23 false 1 t22, eb 24 .lss t21 t23])
  (.cond t24
  (.seq (io [ef 25 5 5 t2, el 26 false 1 t25, em 4 t26])
  .ret)
  .skip))
  (.seq (.seq (io [em 27 t5, ef 28 6 6 t2, el 29 false 1 t28, eb 30 .gtr t27 t29])
  (.cond t30
  (.seq (io [ef 31 6 6 t2, el 32 false 1 t31, em 4 t32])
  .ret)
  .skip))
  (.seq (io [em 33 t5, em 4 t33])
  .ret))))))
theorem hc_r12_LateFee : compF Tryz.prog 34 Tryz.f173 = some (ic_r12_LateFee, [.t 4]) := by kernel_rfl

theorem fn_r12_room : Tryz.prog.funcs[r12_room]? = some Tryz.f174 := Tryz.func174
theorem nt_r12_room : Tryz.f174.ntmps = 14 := Tryz.ntmps174
def ic_r12_room : IC := (.seq (io [em 4 (ci 0)])
  (.seq (.seq (io [em 5 t1, eb 6 .leq t5 (ci 0)])
  (.cond t6
  (.seq (io [em 7 t0, em 4 t7])
  .ret)
  .skip))
  (.seq (.seq (io [em 8 t1, em 9 t0, eb 10 .geq t8 t9])
  (.cond t10
  (.seq (io [em 4 (ci 0)])
  .ret)
  .skip))
  (.seq (io [em 11 t0, em 12 t1, eb 13 .sub t11 t12, em 4 t13])
  .ret))))
theorem hc_r12_room : compF Tryz.prog 14 Tryz.f174 = some (ic_r12_room, [.t 4]) := by kernel_rfl

theorem fn_r9_Turn : Tryz.prog.funcs[r9_Turn]? = some Tryz.f175 := Tryz.func175
theorem nt_r9_Turn : Tryz.f175.ntmps = 29 := Tryz.ntmps175
def ic_r9_Turn : IC := (.seq (io [em 4 (ci 0)])
  (.seq (io [em 5 (ci 0)])
  (.seq (.seq (io [em 7 t0])
  (.block 0 (.seq (io [eb 9 .eql t7 (ci 0), em 8 t9])
  (.cond t8
  (.ops [em 5 (ci 321)])
  (.seq (io [eb 11 .eql t7 (ci 1), em 10 t11])
  (.cond t10
  (.ops [em 5 (ci 312)])
  (.seq (io [eb 13 .eql t7 (ci 2), em 12 t13])
  (.cond t12
  (.ops [em 5 (ci 231)])
  (.seq (io [eb 15 .eql t7 (ci 3), em 14 t15])
  (.cond t14
  (.ops [em 5 (ci 213)])
  (.seq (io [eb 17 .eql t7 (ci 4), em 16 t17])
  (.cond t16
  (.ops [em 5 (ci 132)])
  (.seq (io [eb 19 .eql t7 (ci 5), em 18 t19])
  (.cond t18
  (.ops [em 5 (ci 123)])
  (.seq (io [em 4 (ci (-1))])
  .ret)))))))))))))))
  (.seq (.seq (io [em 20 t1, em 6 t20])
  (.block 1 (.loop (.seq (.seq (io [em 21 t6, eb 22 .lss t21 (ci 2)])
  (.cond t22
  .skip
  (.exit 1)))
  (.seq (.block 2 (.ops [em 25 t5, eb 26 .quo t25 (ci 10), em 5 t26]))
  (.ops [em 23 t6, eb 24 .add t23 (ci 1), em 6 t24]))))))
  (.seq (io [em 27 t5, eb 28 .rem t27 (ci 10), em 4 t28])
  .ret)))))
theorem hc_r9_Turn : compF Tryz.prog 29 Tryz.f175 = some (ic_r9_Turn, [.t 4]) := by kernel_rfl

theorem fn_r9_part : Tryz.prog.funcs[r9_part]? = some Tryz.f176 := Tryz.func176
theorem nt_r9_part : Tryz.f176.ntmps = 46 := Tryz.ntmps176
def ic_r9_part : IC := (.seq (io [.o 5 (.box t1), em 8 (ci 0)])
  (.seq (io [em 12 t2, em 9 t12])
  (.seq (.seq (io [em 10 (ci 0)])
  (.block 0 (.loop (.seq (.seq (io [em 13 t10, em 14 t3, eb 15 .lss t13 t14])
  (.cond t15
  .skip
  (.exit 0)))
  (.seq (.block 1 (.seq (.dops [el 18 true 3 t5, em 19 t0, em 20 t10, ec 21 175 [t19, t20], ec 22 188 [t18, t21], em 11 t22])
  (.seq (.seq (io [em 23 t11, em 24 t9, eb 25 .geq t23 t24])
  (.cond t25
  (.seq (io [em 8 (ci 0)])
  .ret)
  .skip))
  (.ops [em 26 t9, em 27 t11, eb 28 .sub t26 t27, em 9 t28]))))
  (.ops [em 16 t10, eb 17 .add t16 (ci 1), em 10 t17]))))))
  (.seq (.seq (.dops [em 29 t3, eb 30 .eql t29 (ci 3), em 31 t30, .og 32 31 false (.mv t9), .og 33 31 false (.ld true 3 t5), .og 34 31 false (.mv t0), .og 35 31 false (.mv t3), .og 36 31 false (.call 175 [t34, t35]), .og 37 31 false (.call 188 [t33, t36]), .og 38 31 false (.bin .lss t32 t37), .o 39 (.pick t31 ct t38)])
  (.cond t39
  (.seq (io [em 40 t9, em 8 t40])
  .ret)
  .skip))
  (.seq (.dops [el 41 true 3 t5, em 42 t0, em 43 t3, ec 44 175 [t42, t43], ec 45 188 [t41, t44], em 8 t45])
  .ret)))))
theorem hc_r9_part : compF Tryz.prog 46 Tryz.f176 = some (ic_r9_part, [.t 8]) := by kernel_rfl

theorem fn_r9_with : Tryz.prog.funcs[r9_with]? = some Tryz.f177 := Tryz.func177
theorem nt_r9_with : Tryz.f177.ntmps = 24 := Tryz.ntmps177
def ic_r9_with : IC := (.seq (io [em 8 (.c (.slice none 0 0))])
  (.seq (.seq (io [em 10 t2, eb 11 .leq t10 (ci 0)])
  (.cond t11
  (.seq (io [em 12 t0, em 8 t12])
  .ret)
  .skip))
  (.seq (io [em 13 t1, em 14 t2, .o 15 (.build (.st (zc (zc (zc .nil)))) [(0, 0, 1, (ci 0)), (1, 1, 1, t13), (2, 2, 1, t14)]), .o 9 (.alloc (.st (zc (zc (zc .nil))))), .n (.sto 3 t9 t15)])
  (.seq (.seq (io [em 16 t3])
  (.cond t16
  (.ops [em 17 t1, em 18 t2, .o 19 (.build (.st (zc (zc (zc .nil)))) [(0, 0, 1, t17), (1, 1, 1, (ci 0)), (2, 2, 1, t18)]), .n (.sto 3 t9 t19)])
  .skip))
  (.seq (io [em 20 t0, el 21 true 3 t9, .o 22 (.bsl 3 158 (.st (zc (zc (zc .nil)))) [(0, 0, 3, t21)]), .o 23 (.app 3 24 158 t20 t22), em 8 t23])
  .ret)))))
theorem hc_r9_with : compF Tryz.prog 24 Tryz.f177 = some (ic_r9_with, [.t 8]) := by kernel_rfl

theorem fn_r2_divides : Tryz.prog.funcs[r2_divides]? = some Tryz.f178 := Tryz.func178
theorem nt_r2_divides : Tryz.f178.ntmps = 16 := Tryz.ntmps178
def ic_r2_divides : IC := (.seq (io [em 2 cf])
  (.seq (io [em 3 t0, eb 4 .rem t3 (ci 4), eb 5 .eql t4 (ci 0), em 6 t5, .og 7 6 true (.mv t0), .og 8 6 true (.bin .rem t7 (ci 100)), .og 9 6 true (.bin .neq t8 (ci 0)), .og 10 6 true (.mv t9), .og 11 10 false (.mv t0), .og 12 10 false (.bin .rem t11 (ci 400)), .og 13 10 false (.bin .eql t12 (ci 0)), .og 14 6 true (.pick t10 ct t13), .o 15 (.pick t6 t14 cf), em 2 t15])
  .ret))
theorem hc_r2_divides : compF Tryz.prog 16 Tryz.f178 = some (ic_r2_divides, [.t 2]) := by kernel_rfl

theorem fn_r2_MonthLen : Tryz.prog.funcs[r2_MonthLen]? = some Tryz.f179 := Tryz.func179
theorem nt_r2_MonthLen : Tryz.f179.ntmps = 22 := Tryz.ntmps179
def ic_r2_MonthLen : IC := (.seq (io [em 4 (ci 0)])
  (.seq (.seq (io [em 5 t0, eb 6 .lss t5 (ci 1), em 7 t6, .og 8 7 false (.mv t0), .og 9 7 false (.bin .gtr t8 (ci 9999)), .o 10 (.pick t7 ct t9), em 11 t10, .og 12 11 false (.mv t1), .og 13 11 false (.bin .lss t12 (ci 1)), .o 14 (.pick t11 ct t13), em 15 t14, .og 16 15 false (.mv t1), .og 17 15 false (.bin .gtr t16 (ci 12)), .o 18 (.pick t15 ct t17)])
  (.cond t18
  (.seq (io [em 4 (ci 0)])
  .ret)
  .skip))
  (.seq (io [em 19 t0, em 20 t1, ec 21 162 [t19, t20], em 4 t21])
  .ret)))
theorem hc_r2_MonthLen : compF Tryz.prog 22 Tryz.f179 = some (ic_r2_MonthLen, [.t 4]) := by kernel_rfl

theorem fn_r2_Business : Tryz.prog.funcs[r2_Business]? = some Tryz.f180 := Tryz.func180
theorem nt_r2_Business : Tryz.f180.ntmps = 31 := Tryz.ntmps180
def ic_r2_Business : IC := (.seq (io [em 4 cf])
  (.seq (io [em 9 t0, ec 10 189 [t9], em 8 t10, ex 11 0 t8, ex 12 1 t8, em 5 t11, em 6 t12])
  (.seq (.seq (io [em 13 t6, .o 14 (.un .not t13), em 15 t14, .og 16 15 false (.mv t5), .og 17 15 false (.bin .gtr t16 (ci 5)), .o 18 (.pick t15 ct t17)])
  (.cond t18
  (.seq (io [em 4 cf])
  .ret)
  .skip))
  (.seq (.seq (io [em 7 (ci 0)])
  (.block 0 (.loop (.seq (.seq (io [em 19 t7, em 20 t1, .o 21 (.len t20), eb 22 .lss t19 t21])
  (.cond t22
  .skip
  (.exit 0)))
  (.seq (.block 1 (.seq (io [em 25 t1, em 26 t7, es 27 1 t25 t26, el 28 false 1 t27, em 29 t0, eb 30 .eql t28 t29])
  (.cond t30
  (.seq (io [em 4 cf])
  .ret)
  .skip)))
  (.ops [em 23 t7, eb 24 .add t23 (ci 1), em 7 t24]))))))
  (.seq (io [em 4 ct])
  .ret)))))
theorem hc_r2_Business : compF Tryz.prog 31 Tryz.f180 = some (ic_r2_Business, [.t 4]) := by kernel_rfl

theorem fn_r13_fits : Tryz.prog.funcs[r13_fits]? = some Tryz.f181 := Tryz.func181
theorem nt_r13_fits : Tryz.f181.ntmps = 17 := Tryz.ntmps181
def ic_r13_fits : IC := (.seq (io [em 6 cf])
  (.seq (io [em 7 t0, em 8 t2, eb 9 .leq t7 t8, em 10 t9, .og 11 10 true (.mv t1), .og 12 10 true (.mv t2), .og 13 10 true (.mv t0), .og 14 10 true (.bin .sub t12 t13), .og 15 10 true (.bin .leq t11 t14), .o 16 (.pick t10 t15 cf), em 6 t16])
  .ret))
theorem hc_r13_fits : compF Tryz.prog 17 Tryz.f181 = some (ic_r13_fits, [.t 6]) := by kernel_rfl

theorem fn_r13_age : Tryz.prog.funcs[r13_age]? = some Tryz.f182 := Tryz.func182
theorem nt_r13_age : Tryz.f182.ntmps = 95 := Tryz.ntmps182
def ic_r13_age : IC := (.seq (io [.o 3 (.box t0), .o 4 (.box t1), .o 5 (.box t2), .o 6 (.alloc (.st (zc (zf (zc (zc (zc (zc (zc (zc (zc (zc (zc (zc (zc (zc (zc .nil))))))))))))))))), em 7 (.c (.slice none 0 0))])
  (.seq (io [em 8 (.c (.slice none 0 0))])
  (.seq (.seq (io [ef 11 0 0 t4, el 12 false 1 t11, eb 13 .eql t12 (ci 4), em 14 t13, .og 15 14 true (.fa 1 1 t5), .og 16 14 true (.ld false 1 t15), .og 17 14 true (.fa 6 6 t4), .og 18 14 true (.ld false 1 t17), .og 19 14 true (.bin .gtr t16 t18), .o 20 (.pick t14 t19 cf)])
  (.cond t20
  (.seq (io [ef 21 10 10 t4, el 22 false 1 t21, eb 23 .add t22 (ci 1), ef 24 10 10 t4, .n (.sto 1 t24 t23)])
  (.seq (io [el 25 true 15 t4, ec 26 190 [t25], .n (.sto 15 t4 t26)])
  (.ops [em 27 t8, .o 28 (.bsl 1 3 zi [(0, 0, 1, (ci 1))]), .o 29 (.app 1 8 3 t27 t28), em 8 t29])))
  .skip))
  (.seq (.seq (io [el 30 true 15 t4, ec 31 150 [t30], em 32 t31, .og 33 32 true (.fa 2 2 t5), .og 34 32 true (.ld false 1 t33), .og 35 32 true (.bin .eql t34 (ci 0)), .o 36 (.pick t32 t35 cf)])
  (.cond t36
  (.seq (io [em 37 t8, .o 38 (.bsl 1 3 zi [(0, 0, 1, (ci 6))]), .o 39 (.app 1 8 3 t37 t38), em 8 t39])
  (.seq (io [el 40 true 15 t4, ec 41 186 [t40], em 42 t8, .n (.sto 15 t6 t41), em 7 t42])
  .ret))
  .skip))
  (.seq (.seq (io [el 43 true 15 t4, ec 44 150 [t43], .o 45 (.un .not t44)])
  (.cond t45
  (.seq (io [el 47 true 18 t3, el 48 true 15 t4, el 49 true 4 t5, ec 50 191 [t47, t48, t49], em 46 t50, ex 51 0 t46, ex 52 1 t46, .o 9 (.alloc (.st (zc (zf (zc (zc (zc (zc (zc (zc (zc (zc (zc (zc (zc (zc (zc .nil))))))))))))))))), .n (.sto 15 t9 t51), em 10 t52])
  (.seq (io [el 53 true 15 t9, .n (.sto 15 t4 t53)])
  (.ops [em 54 t8, em 55 t10, .o 56 (.app 1 8 3 t54 t55), em 8 t56])))
  .skip))
  (.seq (.seq (io [el 57 true 15 t4, ec 58 150 [t57], em 59 t58, .og 60 59 true (.fa 1 1 t4), .og 61 59 true (.ld false 1 t60), .og 62 59 true (.un .not t61), .o 63 (.pick t59 t62 cf), em 64 t63, .og 65 64 true (.fa 2 2 t5), .og 66 64 true (.ld false 1 t65), .og 67 64 true (.fa 2 2 t3), .og 68 64 true (.ld false 1 t67), .og 69 64 true (.bin .geq t66 t68), .o 70 (.pick t64 t69 cf)])
  (.cond t70
  (.seq (io [ef 71 1 1 t4, .n (.sto 1 t71 ct)])
  (.seq (.seq (io [ef 72 0 0 t4, el 73 false 1 t72, eb 74 .eql t73 (ci 3)])
  (.cond t74
  (.ops [ef 75 0 0 t4, .n (.sto 1 t75 (ci 5))])
  .skip))
  (.ops [em 76 t8, .o 77 (.bsl 1 3 zi [(0, 0, 1, (ci 3))]), .o 78 (.app 1 8 3 t76 t77), em 8 t78])))
  .skip))
  (.seq (.seq (io [el 79 true 15 t4, ec 80 150 [t79], em 81 t80, .og 82 81 true (.fa 1 1 t5), .og 83 81 true (.ld false 1 t82), .og 84 81 true (.fa 4 4 t4), .og 85 81 true (.ld false 1 t84), .og 86 81 true (.bin .geq t83 t85), .o 87 (.pick t81 t86 cf)])
  (.cond t87
  (.seq (io [el 88 true 15 t4, ec 89 185 [t88, (ci 8)], .n (.sto 15 t4 t89)])
  (.ops [em 90 t8, .o 91 (.bsl 1 3 zi [(0, 0, 1, (ci 4))]), .o 92 (.app 1 8 3 t90 t91), em 8 t92]))
  .skip))
  (.seq (io [el 93 true 15 t4, em 94 t8, .n (.sto 15 t6 t93), em 7 t94])
  .ret))))))))
theorem hc_r13_age : compF Tryz.prog 95 Tryz.f182 = some (ic_r13_age, [.c 6 true 15, .t 7]) := by kernel_rfl

theorem fn_r13_paid : Tryz.prog.funcs[r13_paid]? = some Tryz.f183 := Tryz.func183
theorem nt_r13_paid : Tryz.f183.ntmps = 57 := Tryz.ntmps183
def ic_r13_paid : IC := (.seq (io [.o 2 (.box t0), .o 3 (.box t1), .o 4 (.alloc (.st (zc (zf (zc (zc (zc (zc (zc (zc (zc (zc (zc (zc (zc (zc (zc .nil))))))))))))))))), em 5 (.c (.slice none 0 0))])
  (.seq (io [em 6 (.c (.slice none 0 0))])
  (.seq (.seq (io [ef 7 0 0 t2, el 8 false 1 t7, eb 9 .eql t8 (ci 4)])
  (.cond t9
  (.seq (io [ef 10 3 3 t3, el 11 false 1 t10, ef 12 7 7 t2, el 13 false 1 t12, ef 14 8 8 t2, el 15 false 1 t14, eb 16 .sub t13 t15, eb 17 .geq t11 t16])
  (.cond t17
  (.seq (io [ef 18 9 9 t2, el 19 false 1 t18, eb 20 .add t19 (ci 1), ef 21 9 9 t2, .n (.sto 1 t21 t20)])
  (.seq (io [el 22 true 15 t2, ec 23 190 [t22], .n (.sto 15 t2 t23)])
  (.ops [em 24 t6, .o 25 (.bsl 1 3 zi [(0, 0, 1, (ci 5))]), .o 26 (.app 1 8 3 t24 t25), em 6 t26])))
  (.ops [ef 27 8 8 t2, el 28 false 1 t27, ef 29 3 3 t3, el 30 false 1 t29, eb 31 .add t28 t30, ef 32 8 8 t2, .n (.sto 1 t32 t31)])))
  .skip))
  (.seq (.seq (io [el 33 true 15 t2, ec 34 150 [t33], em 35 t34, .og 36 35 true (.fa 2 2 t3), .og 37 35 true (.ld false 1 t36), .og 38 35 true (.bin .eql t37 (ci 0)), .o 39 (.pick t35 t38 cf)])
  (.cond t39
  (.seq (io [em 40 t6, .o 41 (.bsl 1 3 zi [(0, 0, 1, (ci 6))]), .o 42 (.app 1 8 3 t40 t41), em 6 t42])
  (.seq (io [el 43 true 15 t2, ec 44 186 [t43], em 45 t6, .n (.sto 15 t4 t44), em 5 t45])
  .ret))
  .skip))
  (.seq (.seq (io [ef 46 0 0 t2, el 47 false 1 t46, eb 48 .eql t47 (ci 2), em 49 t48, .og 50 49 true (.fa 2 2 t3), .og 51 49 true (.ld false 1 t50), .og 52 49 true (.bin .eql t51 (ci 0)), .o 53 (.pick t49 t52 cf)])
  (.cond t53
  (.ops [ef 54 0 0 t2, .n (.sto 1 t54 (ci 1))])
  .skip))
  (.seq (io [el 55 true 15 t2, em 56 t6, .n (.sto 15 t4 t55), em 5 t56])
  .ret))))))
theorem hc_r13_paid : compF Tryz.prog 57 Tryz.f183 = some (ic_r13_paid, [.c 4 true 15, .t 5]) := by kernel_rfl

theorem fn_r13_returned : Tryz.prog.funcs[r13_returned]? = some Tryz.f184 := Tryz.func184
theorem nt_r13_returned : Tryz.f184.ntmps = 21 := Tryz.ntmps184
def ic_r13_returned : IC := (.seq (io [.o 2 (.box t0), .o 3 (.box t1), .o 4 (.alloc (.st (zc (zf (zc (zc (zc (zc (zc (zc (zc (zc (zc (zc (zc (zc (zc .nil)))))))))))))))))])
  (.seq (.seq (io [ef 5 0 0 t2, el 6 false 1 t5, eb 7 .eql t6 (ci 4)])
  (.cond t7
  (.seq (io [ef 8 3 3 t3, el 9 false 1 t8, ef 10 8 8 t2, el 11 false 1 t10, eb 12 .geq t9 t11])
  (.cond t12
  (.ops [ef 13 8 8 t2, .n (.sto 1 t13 (ci 0))])
  (.ops [ef 14 8 8 t2, el 15 false 1 t14, ef 16 3 3 t3, el 17 false 1 t16, eb 18 .sub t15 t17, ef 19 8 8 t2, .n (.sto 1 t19 t18)])))
  .skip))
  (.seq (io [el 20 true 15 t2, .n (.sto 15 t4 t20)])
  .ret)))
theorem hc_r13_returned : compF Tryz.prog 21 Tryz.f184 = some (ic_r13_returned, [.c 4 true 15]) := by kernel_rfl

theorem fn_r13_ended : Tryz.prog.funcs[r13_ended]? = some Tryz.f185 := Tryz.func185
theorem nt_r13_ended : Tryz.f185.ntmps = 15 := Tryz.ntmps185
def ic_r13_ended : IC := (.seq (io [.o 2 (.box t0), .o 4 (.alloc (.st (zc (zf (zc (zc (zc (zc (zc (zc (zc (zc (zc (zc (zc (zc (zc .nil)))))))))))))))))])
  (.seq (io [el 5 true 15 t2, ec 6 192 [t5], .n (.sto 15 t2 t6)])
  (.seq (io [ef 7 1 1 t2, .n (.sto 1 t7 cf)])
  (.seq (io [ef 8 3 3 t2, .n (.sto 1 t8 (ci 0))])
  (.seq (io [ef 9 4 4 t2, .n (.sto 1 t9 (ci 0))])
  (.seq (io [ef 10 5 5 t2, .n (.sto 1 t10 (ci 0))])
  (.seq (io [ef 11 13 13 t2, .n (.sto 1 t11 (ci 0))])
  (.seq (io [em 12 t1, ef 13 0 0 t2, .n (.sto 1 t13 t12)])
  (.seq (io [el 14 true 15 t2, .n (.sto 15 t4 t14)])
  .ret)))))))))
theorem hc_r13_ended : compF Tryz.prog 15 Tryz.f185 = some (ic_r13_ended, [.c 4 true 15]) := by kernel_rfl

theorem fn_r13_cure : Tryz.prog.funcs[r13_cure]? = some Tryz.f186 := Tryz.func186
theorem nt_r13_cure : Tryz.f186.ntmps = 9 := Tryz.ntmps186
def ic_r13_cure : IC := (.seq (io [.o 1 (.box t0), .o 2 (.alloc (.st (zc (zf (zc (zc (zc (zc (zc (zc (zc (zc (zc (zc (zc (zc (zc .nil)))))))))))))))))])
  (.seq (io [ef 3 11 11 t1, el 4 false 1 t3, eb 5 .add t4 (ci 1), ef 6 11 11 t1, .n (.sto 1 t6 t5)])
  (.seq (io [el 7 true 15 t1, ec 8 185 [t7, (ci 6)], .n (.sto 15 t2 t8)])
  .ret)))
theorem hc_r13_cure : compF Tryz.prog 9 Tryz.f186 = some (ic_r13_cure, [.c 2 true 15]) := by kernel_rfl

theorem fn_r1_Bps : Tryz.prog.funcs[r1_Bps]? = some Tryz.f187 := Tryz.func187
theorem nt_r1_Bps : Tryz.f187.ntmps = 11 := Tryz.ntmps187
def ic_r1_Bps : IC := (.seq (io [em 4 (ci 0), em 5 cf])
  (.seq (io [em 6 t0, em 7 t1, ec 8 193 [t6, t7, (ci 10000)], ex 9 0 t8, ex 10 1 t8, em 4 t9, em 5 t10])
  .ret))
theorem hc_r1_Bps : compF Tryz.prog 11 Tryz.f187 = some (ic_r1_Bps, [.t 4, .t 5]) := by kernel_rfl

theorem fn_r9_wants : Tryz.prog.funcs[r9_wants]? = some Tryz.f188 := Tryz.func188
theorem nt_r9_wants : Tryz.f188.ntmps = 15 := Tryz.ntmps188
def ic_r9_wants : IC := (.seq (io [.o 2 (.box t0), em 4 (ci 0)])
  (.seq (.seq (io [em 5 t1, eb 6 .eql t5 (ci 3)])
  (.cond t6
  (.seq (io [ef 7 0 0 t2, el 8 false 1 t7, em 4 t8])
  .ret)
  .skip))
  (.seq (.seq (io [em 9 t1, eb 10 .eql t9 (ci 2)])
  (.cond t10
  (.seq (io [ef 11 1 1 t2, el 12 false 1 t11, em 4 t12])
  .ret)
  .skip))
  (.seq (io [ef 13 2 2 t2, el 14 false 1 t13, em 4 t14])
  .ret))))
theorem hc_r9_wants : compF Tryz.prog 15 Tryz.f188 = some (ic_r9_wants, [.t 4]) := by kernel_rfl

theorem fn_r2_Weekday : Tryz.prog.funcs[r2_Weekday]? = some Tryz.f189 := Tryz.func189
theorem nt_r2_Weekday : Tryz.f189.ntmps = 11 := Tryz.ntmps189
def ic_r2_Weekday : IC := (.seq (io [em 2 (ci 0), em 3 cf])
  (.seq (.seq (io [em 4 t0, ec 5 160 [t4], .o 6 (.un .not t5)])
  (.cond t6
  (.seq (io [em 2 (ci 0), em 3 cf])
  .ret)
  .skip))
  (.seq (io [em 7 t0, eb 8 .sub t7 (ci 1), eb 9 .rem t8 (ci 7), eb 10 .add t9 (ci 1), em 2 t10, em 3 ct])
  .ret)))
theorem hc_r2_Weekday : compF Tryz.prog 11 Tryz.f189 = some (ic_r2_Weekday, [.t 2, .t 3]) := by kernel_rfl

theorem fn_r13_back : Tryz.prog.funcs[r13_back]? = some Tryz.f190 := Tryz.func190
theorem nt_r13_back : Tryz.f190.ntmps = 10 := Tryz.ntmps190
def ic_r13_back : IC := (.seq (io [.o 1 (.box t0), .o 2 (.alloc (.st (zc (zf (zc (zc (zc (zc (zc (zc (zc (zc (zc (zc (zc (zc (zc .nil)))))))))))))))))])
  (.seq (io [el 3 true 15 t1, ec 4 192 [t3], .n (.sto 15 t1 t4)])
  (.seq (io [ef 5 0 0 t1, .n (.sto 1 t5 (ci 3))])
  (.seq (.seq (io [ef 6 1 1 t1, el 7 false 1 t6])
  (.cond t7
  (.ops [ef 8 0 0 t1, .n (.sto 1 t8 (ci 5))])
  .skip))
  (.seq (io [el 9 true 15 t1, .n (.sto 15 t2 t9)])
  .ret)))))
theorem hc_r13_back : compF Tryz.prog 10 Tryz.f190 = some (ic_r13_back, [.c 2 true 15]) := by kernel_rfl

theorem fn_r13_quiet : Tryz.prog.funcs[r13_quiet]? = some Tryz.f191 := Tryz.func191
theorem nt_r13_quiet : Tryz.f191.ntmps = 41 := Tryz.ntmps191
def ic_r13_quiet : IC := (.seq (io [.o 3 (.box t0), .o 4 (.box t1), .o 5 (.box t2), .o 6 (.alloc (.st (zc (zf (zc (zc (zc (zc (zc (zc (zc (zc (zc (zc (zc (zc (zc .nil))))))))))))))))), em 7 (.c (.slice none 0 0))])
  (.seq (.seq (io [ef 8 2 2 t5, el 9 false 1 t8, eb 10 .eql t9 (ci 0)])
  (.cond t10
  (.seq (.seq (io [ef 11 0 0 t4, el 12 false 1 t11, eb 13 .eql t12 (ci 2)])
  (.cond t13
  (.ops [ef 14 0 0 t4, .n (.sto 1 t14 (ci 1))])
  .skip))
  (.seq (io [el 15 true 15 t4, .n (.sto 15 t6 t15), em 7 (.c (.slice none 0 0))])
  .ret))
  .skip))
  (.seq (.seq (io [ef 16 2 2 t5, el 17 false 1 t16, ef 18 1 1 t3, el 19 false 1 t18, eb 20 .leq t17 t19])
  (.cond t20
  (.seq (io [ef 21 0 0 t4, .n (.sto 1 t21 (ci 2))])
  (.seq (io [el 22 true 15 t4, .n (.sto 15 t6 t22), em 7 (.c (.slice none 0 0))])
  .ret))
  .skip))
  (.seq (io [ef 23 2 2 t4, el 24 false 1 t23, eb 25 .add t24 (ci 1), ef 26 2 2 t4, .n (.sto 1 t26 t25)])
  (.seq (io [ef 27 1 1 t5, el 28 false 1 t27, ef 29 3 3 t4, .n (.sto 1 t29 t28)])
  (.seq (io [ef 30 1 1 t5, el 31 false 1 t30, ef 32 3 3 t3, el 33 false 1 t32, eb 34 .add t31 t33, ef 35 4 4 t4, .n (.sto 1 t35 t34)])
  (.seq (io [ef 36 5 5 t4, .n (.sto 1 t36 (ci 0))])
  (.seq (io [ef 37 13 13 t4, .n (.sto 1 t37 (ci 0))])
  (.seq (io [ef 38 0 0 t4, .n (.sto 1 t38 (ci 3))])
  (.seq (io [el 39 true 15 t4, .o 40 (.bsl 1 3 zi [(0, 0, 1, (ci 2))]), .n (.sto 15 t6 t39), em 7 t40])
  .ret))))))))))
theorem hc_r13_quiet : compF Tryz.prog 41 Tryz.f191 = some (ic_r13_quiet, [.c 6 true 15, .t 7]) := by kernel_rfl

theorem fn_r13_cleared : Tryz.prog.funcs[r13_cleared]? = some Tryz.f192 := Tryz.func192
theorem nt_r13_cleared : Tryz.f192.ntmps = 7 := Tryz.ntmps192
def ic_r13_cleared : IC := (.seq (io [.o 1 (.box t0), .o 2 (.alloc (.st (zc (zf (zc (zc (zc (zc (zc (zc (zc (zc (zc (zc (zc (zc (zc .nil)))))))))))))))))])
  (.seq (io [ef 3 6 6 t1, .n (.sto 1 t3 (ci 0))])
  (.seq (io [ef 4 7 7 t1, .n (.sto 1 t4 (ci 0))])
  (.seq (io [ef 5 8 8 t1, .n (.sto 1 t5 (ci 0))])
  (.seq (io [el 6 true 15 t1, .n (.sto 15 t2 t6)])
  .ret)))))
theorem hc_r13_cleared : compF Tryz.prog 7 Tryz.f192 = some (ic_r13_cleared, [.c 2 true 15]) := by kernel_rfl

theorem fn_r1_MulDiv : Tryz.prog.funcs[r1_MulDiv]? = some Tryz.f193 := Tryz.func193
theorem nt_r1_MulDiv : Tryz.f193.ntmps = 61 := Tryz.ntmps193
def ic_r1_MulDiv : IC := (.seq (io [em 6 (ci 0), em 7 cf])
  (.seq (.seq (io [em 13 t2, eb 14 .eql t13 (ci 0)])
  (.cond t14
  (.seq (io [em 6 (ci 0), em 7 cf])
  .ret)
  .skip))
  (.seq (io [em 15 t2, ec 16 194 [t15], em 8 t16])
  (.seq (io [em 18 t0, ec 19 194 [t18], ec 20 197 [t19], em 21 t1, ec 22 194 [t21], ec 23 197 [t22], ec 24 196 [t20, t23], em 25 t8, ec 26 195 [t24, t25], em 17 t26, ex 27 0 t17, ex 28 1 t17, em 9 t27, em 10 t28])
  (.seq (io [em 29 t8, em 30 t10, eb 31 .sub t29 t30, em 11 t31])
  (.seq (.seq (io [em 32 t10, em 33 t11, eb 34 .gtr t32 t33, em 35 t34, .og 36 35 false (.mv t10), .og 37 35 false (.mv t11), .og 38 35 false (.bin .eql t36 t37), .og 39 35 false (.mv t38), .og 40 39 true (.mv t9), .og 41 39 true (.ixs 1 t40 (ci 0)), .og 42 39 true (.ld false 1 t41), .og 43 39 true (.bin .eql t42 (ci 1)), .og 44 35 false (.pick t39 t43 cf), .o 45 (.pick t35 ct t44)])
  (.cond t45
  (.ops [em 46 t9, ec 47 198 [t46], em 9 t47])
  .skip))
  (.seq (io [em 48 t0, eb 49 .lss t48 (ci 0), em 50 t1, eb 51 .lss t50 (ci 0), .o 52 (.eqv true t49 t51), em 12 t52])
  (.seq (io [em 53 t12, em 54 t2, eb 55 .lss t54 (ci 0), .o 56 (.eqv true t53 t55), em 57 t9, ec 58 199 [t56, t57], ex 59 0 t58, ex 60 1 t58, em 6 t59, em 7 t60])
  .ret))))))))
theorem hc_r1_MulDiv : compF Tryz.prog 61 Tryz.f193 = some (ic_r1_MulDiv, [.t 6, .t 7]) := by kernel_rfl

theorem fn_r1_size : Tryz.prog.funcs[r1_size]? = some Tryz.f194 := Tryz.func194
theorem nt_r1_size : Tryz.f194.ntmps = 12 := Tryz.ntmps194
def ic_r1_size : IC := (.seq (io [em 2 (.c (.int .u64 0))])
  (.seq (.seq (io [em 3 t0, eb 4 .lss t3 (ci 0)])
  (.cond t4
  (.seq (io [em 5 t0, eb 6 .add t5 (ci 1), .o 7 (.un .neg t6), .o 8 (.conv .u64 t7), eb 9 .add t8 (.c (.int .u64 1)), em 2 t9])
  .ret)
  .skip))
  (.seq (io [em 10 t0, .o 11 (.conv .u64 t10), em 2 t11])
  .ret)))
theorem hc_r1_size : compF Tryz.prog 12 Tryz.f194 = some (ic_r1_size, [.t 2]) := by kernel_rfl

theorem fn_r1_over : Tryz.prog.funcs[r1_over]? = some Tryz.f195 := Tryz.func195
theorem nt_r1_over : Tryz.f195.ntmps = 45 := Tryz.ntmps195
def ic_r1_over : IC := (.seq (io [em 4 (.c (.slice none 0 0)), em 5 (.c (.int .u64 0))])
  (.seq (io [em 6 (.c (.slice none 0 0))])
  (.seq (.seq (io [em 7 (ci 0)])
  (.block 0 (.loop (.seq (.seq (io [em 10 t7, em 11 t0, .o 12 (.len t11), eb 13 .lss t10 t12])
  (.cond t13
  .skip
  (.exit 0)))
  (.seq (.block 1 (.ops [em 16 t6, .o 17 (.bsl 1 3 zi [(0, 0, 1, (ci 0))]), .o 18 (.app 1 8 3 t16 t17), em 6 t18]))
  (.ops [em 14 t7, eb 15 .add t14 (ci 1), em 7 t15]))))))
  (.seq (io [em 8 (.c (.int .u64 0))])
  (.seq (.seq (io [em 19 t0, .o 20 (.len t19), eb 21 .sub t20 (ci 1), em 9 t21])
  (.block 2 (.loop (.seq (.seq (io [em 22 t9, eb 23 .geq t22 (ci 0)])
  (.cond t23
  .skip
  (.exit 2)))
  (.seq (.block 3 (.seq (io [em 26 t8, eb 27 .mul (.c (.int .u64 2)) t26, em 28 t0, em 29 t9, es 30 1 t28 t29, el 31 false 1 t30, .o 32 (.conv .u64 t31), eb 33 .add t27 t32, em 8 t33])
  (.seq (io [em 34 t8, em 35 t1, eb 36 .geq t34 t35])
  (.cond t36
  (.seq (io [em 37 t8, em 38 t1, eb 39 .sub t37 t38, em 8 t39])
  (.ops [em 40 t6, em 41 t9, es 42 1 t40 t41, .n (.sto 1 t42 (ci 1))]))
  .skip))))
  (.ops [em 24 t9, eb 25 .sub t24 (ci 1), em 9 t25]))))))
  (.seq (io [em 43 t6, em 44 t8, em 4 t43, em 5 t44])
  .ret))))))
theorem hc_r1_over : compF Tryz.prog 45 Tryz.f195 = some (ic_r1_over, [.t 4, .t 5]) := by kernel_rfl

theorem fn_r1_times : Tryz.prog.funcs[r1_times]? = some Tryz.f196 := Tryz.func196
theorem nt_r1_times : Tryz.f196.ntmps = 70 := Tryz.ntmps196
def ic_r1_times : IC := (.seq (io [em 4 (.c (.slice none 0 0))])
  (.seq (io [em 5 (.c (.slice none 0 0))])
  (.seq (.seq (io [em 6 (ci 0)])
  (.block 0 (.loop (.seq (.seq (io [em 12 t6, eb 13 .lss t12 (ci 128)])
  (.cond t13
  .skip
  (.exit 0)))
  (.seq (.block 1 (.ops [em 16 t5, .o 17 (.bsl 1 3 zi [(0, 0, 1, (ci 0))]), .o 18 (.app 1 8 3 t16 t17), em 5 t18]))
  (.ops [em 14 t6, eb 15 .add t14 (ci 1), em 6 t15]))))))
  (.seq (.seq (io [em 7 (ci 0)])
  (.block 2 (.loop (.seq (.seq (io [em 19 t7, em 20 t0, .o 21 (.len t20), eb 22 .lss t19 t21])
  (.cond t22
  .skip
  (.exit 2)))
  (.seq (.block 3 (.seq (io [em 8 (ci 0)])
  (.block 4 (.loop (.seq (.seq (io [em 25 t8, em 26 t1, .o 27 (.len t26), eb 28 .lss t25 t27])
  (.cond t28
  .skip
  (.exit 4)))
  (.seq (.block 5 (.dops [em 31 t5, em 32 t7, em 33 t8, eb 34 .add t32 t33, em 35 t5, em 36 t7, em 37 t8, eb 38 .add t36 t37, es 39 1 t35 t38, el 40 false 1 t39, em 41 t0, em 42 t7, es 43 1 t41 t42, el 44 false 1 t43, em 45 t1, em 46 t8, es 47 1 t45 t46, el 48 false 1 t47, eb 49 .mul t44 t48, eb 50 .add t40 t49, es 51 1 t31 t34, .n (.sto 1 t51 t50)]))
  (.ops [em 29 t8, eb 30 .add t29 (ci 1), em 8 t30])))))))
  (.ops [em 23 t7, eb 24 .add t23 (ci 1), em 7 t24]))))))
  (.seq (io [em 9 (ci 0)])
  (.seq (.seq (io [em 10 (ci 0)])
  (.block 6 (.loop (.seq (.seq (io [em 52 t10, eb 53 .lss t52 (ci 128)])
  (.cond t53
  .skip
  (.exit 6)))
  (.seq (.block 7 (.seq (io [em 56 t5, em 57 t10, es 58 1 t56 t57, el 59 false 1 t58, em 60 t9, eb 61 .add t59 t60, em 11 t61])
  (.seq (io [em 62 t5, em 63 t10, em 64 t11, eb 65 .rem t64 (ci 2), es 66 1 t62 t63, .n (.sto 1 t66 t65)])
  (.ops [em 67 t11, eb 68 .quo t67 (ci 2), em 9 t68]))))
  (.ops [em 54 t10, eb 55 .add t54 (ci 1), em 10 t55]))))))
  (.seq (io [em 69 t5, em 4 t69])
  .ret)))))))
theorem hc_r1_times : compF Tryz.prog 70 Tryz.f196 = some (ic_r1_times, [.t 4]) := by kernel_rfl

theorem fn_r1_digits : Tryz.prog.funcs[r1_digits]? = some Tryz.f197 := Tryz.func197
theorem nt_r1_digits : Tryz.f197.ntmps = 18 := Tryz.ntmps197
def ic_r1_digits : IC := (.seq (io [em 2 (.c (.slice none 0 0))])
  (.seq (io [em 3 (.c (.slice none 0 0))])
  (.seq (.seq (io [em 4 (ci 0)])
  (.block 0 (.loop (.seq (.seq (io [em 5 t4, eb 6 .lss t5 (ci 64)])
  (.cond t6
  .skip
  (.exit 0)))
  (.seq (.block 1 (.seq (io [em 9 t3, em 10 t0, eb 11 .rem t10 (.c (.int .u64 2)), .o 12 (.conv .i64 t11), .o 13 (.bsl 1 3 zi [(0, 0, 1, t12)]), .o 14 (.app 1 8 3 t9 t13), em 3 t14])
  (.ops [em 15 t0, eb 16 .quo t15 (.c (.int .u64 2)), em 0 t16])))
  (.ops [em 7 t4, eb 8 .add t7 (ci 1), em 4 t8]))))))
  (.seq (io [em 17 t3, em 2 t17])
  .ret))))
theorem hc_r1_digits : compF Tryz.prog 18 Tryz.f197 = some (ic_r1_digits, [.t 2]) := by kernel_rfl

theorem fn_r1_more : Tryz.prog.funcs[r1_more]? = some Tryz.f198 := Tryz.func198
theorem nt_r1_more : Tryz.f198.ntmps = 27 := Tryz.ntmps198
def ic_r1_more : IC := (.seq (io [em 2 (.c (.slice none 0 0))])
  (.seq (io [em 3 (.c (.slice none 0 0))])
  (.seq (io [em 4 (ci 1)])
  (.seq (.seq (io [em 5 (ci 0)])
  (.block 0 (.loop (.seq (.seq (io [em 7 t5, em 8 t0, .o 9 (.len t8), eb 10 .lss t7 t9])
  (.cond t10
  .skip
  (.exit 0)))
  (.seq (.block 1 (.seq (io [em 13 t0, em 14 t5, es 15 1 t13 t14, el 16 false 1 t15, em 17 t4, eb 18 .add t16 t17, em 6 t18])
  (.seq (io [em 19 t3, em 20 t6, eb 21 .rem t20 (ci 2), .o 22 (.bsl 1 3 zi [(0, 0, 1, t21)]), .o 23 (.app 1 8 3 t19 t22), em 3 t23])
  (.ops [em 24 t6, eb 25 .quo t24 (ci 2), em 4 t25]))))
  (.ops [em 11 t5, eb 12 .add t11 (ci 1), em 5 t12]))))))
  (.seq (io [em 26 t3, em 2 t26])
  .ret)))))
theorem hc_r1_more : compF Tryz.prog 27 Tryz.f198 = some (ic_r1_more, [.t 2]) := by kernel_rfl

theorem fn_r1_signed : Tryz.prog.funcs[r1_signed]? = some Tryz.f199 := Tryz.func199
theorem nt_r1_signed : Tryz.f199.ntmps = 47 := Tryz.ntmps199
def ic_r1_signed : IC := (.seq (io [em 4 (ci 0), em 5 cf])
  (.seq (.seq (io [em 6 (ci 64)])
  (.block 0 (.loop (.seq (.seq (io [em 9 t6, em 10 t1, .o 11 (.len t10), eb 12 .lss t9 t11])
  (.cond t12
  .skip
  (.exit 0)))
  (.seq (.block 1 (.seq (io [em 15 t1, em 16 t6, es 17 1 t15 t16, el 18 false 1 t17, eb 19 .neq t18 (ci 0)])
  (.cond t19
  (.seq (io [em 4 (ci 0), em 5 cf])
  .ret)
  .skip)))
  (.ops [em 13 t6, eb 14 .add t13 (ci 1), em 6 t14]))))))
  (.seq (io [em 7 (.c (.int .u64 0))])
  (.seq (.seq (io [em 8 (ci 63)])
  (.block 2 (.loop (.seq (.seq (io [em 20 t8, eb 21 .geq t20 (ci 0)])
  (.cond t21
  .skip
  (.exit 2)))
  (.seq (.block 3 (.ops [em 24 t7, eb 25 .mul (.c (.int .u64 2)) t24, em 26 t1, em 27 t8, es 28 1 t26 t27, el 29 false 1 t28, .o 30 (.conv .u64 t29), eb 31 .add t25 t30, em 7 t31]))
  (.ops [em 22 t8, eb 23 .sub t22 (ci 1), em 8 t23]))))))
  (.seq (.seq (io [em 32 t0, .o 33 (.un .not t32)])
  (.cond t33
  (.seq (.seq (io [em 34 t7, eb 35 .gtr t34 (.c (.int .u64 9223372036854775807))])
  (.cond t35
  (.seq (io [em 4 (ci 0), em 5 cf])
  .ret)
  .skip))
  (.seq (io [em 36 t7, .o 37 (.conv .i64 t36), em 4 t37, em 5 ct])
  .ret))
  .skip))
  (.seq (.seq (io [em 38 t7, eb 39 .gtr t38 (.c (.int .u64 9223372036854775808))])
  (.cond t39
  (.seq (io [em 4 (ci 0), em 5 cf])
  .ret)
  .skip))
  (.seq (.seq (io [em 40 t7, eb 41 .eql t40 (.c (.int .u64 0))])
  (.cond t41
  (.seq (io [em 4 (ci 0), em 5 ct])
  .ret)
  .skip))
  (.seq (io [em 42 t7, eb 43 .sub t42 (.c (.int .u64 1)), .o 44 (.conv .i64 t43), .o 45 (.un .neg t44), eb 46 .sub t45 (ci 1), em 4 t46, em 5 ct])
  .ret))))))))
theorem hc_r1_signed : compF Tryz.prog 47 Tryz.f199 = some (ic_r1_signed, [.t 4, .t 5]) := by kernel_rfl

end Go.Proofs.YtaomkjcclcgdlaaGreatDoor
