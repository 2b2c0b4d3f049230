/- The given functions as the walk reads them, continued. No condition. -/
import Derived.Test.YtjkmmcbfcglkdaaGreatDoorZIc2
set_option linter.all false
namespace Go.Proofs.YtjkmmcbfcglkdaaGreatDoor
open Go Ar
set_option linter.unusedVariables false
set_option maxRecDepth 100000
theorem fn_r9_Entries : Tryz.prog.funcs[r9_Entries]? = some Tryz.f144 := Tryz.func144
theorem nt_r9_Entries : Tryz.f144.ntmps = 5 := Tryz.ntmps144
def ic_r9_Entries : IC := (.seq (io [.o 1 (.box t0), em 2 (.c (.slice none 0 0))])
  (.seq (io [el 3 true 5 t1, ec 4 175 [t3, cf], em 2 t4])
  .ret))
theorem hc_r9_Entries : compF Tryz.prog 5 Tryz.f144 = some (ic_r9_Entries, [.t 2]) := by kernel_rfl
theorem fn_r14_settled : Tryz.prog.funcs[r14_settled]? = some Tryz.f145 := Tryz.func145
theorem nt_r14_settled : Tryz.f145.ntmps = 29 := Tryz.ntmps145
def ic_r14_settled : IC := (.seq (io [.o 1 (.box t0), .o 2 (.alloc (.st (.cons (.st (zc (zc (zc (zc (zc (zc (zc (zc (zc (zc (zc (zc (zc (zc (zc (zc (zc (.cons zs .nil))))))))))))))))))) (.cons (.st (zc (.cons (.st (zc (zc (zc (zc (zc (zc .nil))))))) (.cons zs (.cons (.st (.cons (.arr 12 1 fun _ => zi) .nil)) (.cons (.st (zc (zf (zc (zc (zc (zc (zc (zc (zc (zc (zc (zc (zc (zc (zc .nil)))))))))))))))) (zc (zc (zc (.cons (.st (zc (zc (zc (zc (zc .nil)))))) (zf (zc (zc .nil))))))))))))) (.cons (.st (zc (zc (zc (zc (zc .nil)))))) (.cons zs (zc .nil)))))))])
  (.seq (io [ef 4 1 18 t1, el 5 true 46 t4, ec 6 149 [t5], .o 3 (.alloc (.st (zc (zc (zc .nil))))), .n (.sto 3 t3 t6)])
  (.seq (.seq (io [ef 7 4 70 t1, el 8 false 1 t7, eb 9 .eql t8 (ci 0), em 10 t9, .og 11 10 true (.fa 0 0 t3), .og 12 10 true (.ld false 1 t11), .og 13 10 true (.bin .eql t12 (ci 0)), .o 14 (.pick t10 t13 cf), em 15 t14, .og 16 15 true (.fa 1 1 t3), .og 17 15 true (.ld false 1 t16), .og 18 15 true (.bin .eql t17 (ci 0)), .o 19 (.pick t15 t18 cf), em 20 t19, .og 21 20 true (.fa 2 2 t3), .og 22 20 true (.ld false 1 t21), .og 23 20 true (.bin .eql t22 (ci 0)), .o 24 (.pick t20 t23 cf)])
  (.cond t24
  (.seq (io [el 25 true 71 t1, .o 26 (.build (.st (zc (zc (zc (zc .nil))))) [(0, 0, 1, (ci 7))]), ec 27 141 [t25, t26], .n (.sto 71 t2 t27)])
  .ret)
  .skip))
  (.seq (io [el 28 true 71 t1, .n (.sto 71 t2 t28)])
  .ret))))
theorem hc_r14_settled : compF Tryz.prog 29 Tryz.f145 = some (ic_r14_settled, [.c 2 true 71]) := by kernel_rfl
theorem fn_r9_Undo : Tryz.prog.funcs[r9_Undo]? = some Tryz.f146 := Tryz.func146
theorem nt_r9_Undo : Tryz.f146.ntmps = 5 := Tryz.ntmps146
def ic_r9_Undo : IC := (.seq (io [.o 1 (.box t0), em 2 (.c (.slice none 0 0))])
  (.seq (io [el 3 true 5 t1, ec 4 175 [t3, ct], em 2 t4])
  .ret))
theorem hc_r9_Undo : compF Tryz.prog 5 Tryz.f146 = some (ic_r9_Undo, [.t 2]) := by kernel_rfl
theorem fn_r14_forgotten : Tryz.prog.funcs[r14_forgotten]? = some Tryz.f147 := Tryz.func147
theorem nt_r14_forgotten : Tryz.f147.ntmps = 12 := Tryz.ntmps147
def ic_r14_forgotten : IC := (.seq (io [.o 1 (.box t0), .o 2 (.alloc (.st (.cons (.st (zc (zc (zc (zc (zc (zc (zc (zc (zc (zc (zc (zc (zc (zc (zc (zc (zc (.cons zs .nil))))))))))))))))))) (.cons (.st (zc (.cons (.st (zc (zc (zc (zc (zc (zc .nil))))))) (.cons zs (.cons (.st (.cons (.arr 12 1 fun _ => zi) .nil)) (.cons (.st (zc (zf (zc (zc (zc (zc (zc (zc (zc (zc (zc (zc (zc (zc (zc .nil)))))))))))))))) (zc (zc (zc (.cons (.st (zc (zc (zc (zc (zc .nil)))))) (zf (zc (zc .nil))))))))))))) (.cons (.st (zc (zc (zc (zc (zc .nil)))))) (.cons zs (zc .nil)))))))])
  (.seq (.seq (io [ef 3 4 70 t1, el 4 false 1 t3, eb 5 .eql t4 (ci 0)])
  (.cond t5
  (.seq (io [ef 6 1 18 t1, ef 7 9 43 t6, .n (.sto 1 t7 cf)])
  (.ops [.o 8 (.build (.st (zc (zc (zc (zc (zc .nil)))))) []), ef 9 1 18 t1, ef 10 8 38 t9, .n (.sto 5 t10 t8)]))
  .skip))
  (.seq (io [el 11 true 71 t1, .n (.sto 71 t2 t11)])
  .ret)))
theorem hc_r14_forgotten : compF Tryz.prog 12 Tryz.f147 = some (ic_r14_forgotten, [.c 2 true 71]) := by kernel_rfl
theorem fn_r14_noted : Tryz.prog.funcs[r14_noted]? = some Tryz.f148 := Tryz.func148
theorem nt_r14_noted : Tryz.f148.ntmps = 25 := Tryz.ntmps148
def ic_r14_noted : IC := (.seq (io [.o 3 (.box t0), .o 6 (.alloc (.st (.cons (.st (zc (zc (zc (zc (zc (zc (zc (zc (zc (zc (zc (zc (zc (zc (zc (zc (zc (.cons zs .nil))))))))))))))))))) (.cons (.st (zc (.cons (.st (zc (zc (zc (zc (zc (zc .nil))))))) (.cons zs (.cons (.st (.cons (.arr 12 1 fun _ => zi) .nil)) (.cons (.st (zc (zf (zc (zc (zc (zc (zc (zc (zc (zc (zc (zc (zc (zc (zc .nil)))))))))))))))) (zc (zc (zc (.cons (.st (zc (zc (zc (zc (zc .nil)))))) (zf (zc (zc .nil))))))))))))) (.cons (.st (zc (zc (zc (zc (zc .nil)))))) (.cons zs (zc .nil)))))))])
  (.seq (.seq (io [ef 7 4 70 t3, el 8 false 1 t7, eb 9 .eql t8 (ci 0)])
  (.cond t9
  (.ops [ef 10 3 69 t3, el 11 false 1 t10, ef 12 1 18 t3, ef 13 0 0 t12, el 14 false 1 t13, em 15 t1, ef 16 1 18 t3, ef 17 5 35 t16, el 18 false 1 t17, em 19 t2, .o 20 (.build (.st (zc (zc (zc (zc (zc (zf .nil))))))) [(1, 1, 1, t14), (2, 2, 1, t15), (3, 3, 1, t18), (4, 4, 1, t19)]), .o 21 (.bsl 6 74 (.st (zc (zc (zc (zc (zc (zf .nil))))))) [(0, 0, 6, t20)]), .o 22 (.app 6 48 74 t11 t21), ef 23 3 69 t3, .n (.sto 1 t23 t22)])
  .skip))
  (.seq (io [el 24 true 71 t3, .n (.sto 71 t6 t24)])
  .ret)))
theorem hc_r14_noted : compF Tryz.prog 25 Tryz.f148 = some (ic_r14_noted, [.c 6 true 71]) := by kernel_rfl
theorem fn_r14_owed : Tryz.prog.funcs[r14_owed]? = some Tryz.f149 := Tryz.func149
theorem nt_r14_owed : Tryz.f149.ntmps = 10 := Tryz.ntmps149
def ic_r14_owed : IC := (.seq (io [.o 1 (.box t0), .o 2 (.alloc (.st (zc (zc (zc .nil)))))])
  (.seq (.dops [el 3 true 46 t1, ec 4 46 [t3, (ci 3)], el 5 true 46 t1, ec 6 46 [t5, (ci 2)], el 7 true 46 t1, ec 8 46 [t7, (ci 1)], .o 9 (.build (.st (zc (zc (zc .nil)))) [(0, 0, 1, t4), (1, 1, 1, t6), (2, 2, 1, t8)]), .n (.sto 3 t2 t9)])
  .ret))
theorem hc_r14_owed : compF Tryz.prog 10 Tryz.f149 = some (ic_r14_owed, [.c 2 true 3]) := by kernel_rfl
theorem fn_r14_sum : Tryz.prog.funcs[r14_sum]? = some Tryz.f150 := Tryz.func150
theorem nt_r14_sum : Tryz.f150.ntmps = 11 := Tryz.ntmps150
def ic_r14_sum : IC := (.seq (io [.o 1 (.box t0), em 2 (ci 0)])
  (.seq (io [ef 3 0 0 t1, el 4 false 1 t3, ef 5 1 1 t1, el 6 false 1 t5, eb 7 .add t4 t6, ef 8 2 2 t1, el 9 false 1 t8, eb 10 .add t7 t9, em 2 t10])
  .ret))
theorem hc_r14_sum : compF Tryz.prog 11 Tryz.f150 = some (ic_r14_sum, [.t 2]) := by kernel_rfl
theorem fn_arrears_policy_between_int_1 : Tryz.prog.funcs[arrears_policy_between_int_1]? = some Tryz.f151 := Tryz.func151
theorem nt_arrears_policy_between_int_1 : Tryz.f151.ntmps = 20 := Tryz.ntmps151
def ic_arrears_policy_between_int_1 : IC := (.seq (io [.o 4 (.box t0), em 5 cf])
  (.seq (io [el 7 false 1 t1, el 8 true 18 t4, .o 9 (.calv t7 [t8]), em 6 t9])
  (.seq (io [em 10 t6, el 11 false 1 t2, el 12 true 18 t4, .o 13 (.calv t11 [t12]), eb 14 .geq t10 t13, em 15 t14, .og 16 15 true (.mv t6), .og 17 15 true (.ld false 1 t3), .og 18 15 true (.bin .leq t16 t17), .o 19 (.pick t15 t18 cf), em 5 t19])
  .ret)))
theorem hc_arrears_policy_between_int_1 : compF Tryz.prog 20 Tryz.f151 = some (ic_arrears_policy_between_int_1, [.t 5]) := by kernel_rfl
theorem fn_arrears_policy_from_int_1 : Tryz.prog.funcs[arrears_policy_from_int_1]? = some Tryz.f152 := Tryz.func152
theorem nt_arrears_policy_from_int_1 : Tryz.f152.ntmps = 5 := Tryz.ntmps152
def ic_arrears_policy_from_int_1 : IC := (.seq (io [.o 2 (.box t0), em 3 (ci 0)])
  (.seq (io [el 4 false 1 t1, em 3 t4])
  .ret))
theorem hc_arrears_policy_from_int_1 : compF Tryz.prog 5 Tryz.f152 = some (ic_arrears_policy_from_int_1, [.t 3]) := by kernel_rfl
theorem fn_arrears_policy_between_int64_1 : Tryz.prog.funcs[arrears_policy_between_int64_1]? = some Tryz.f153 := Tryz.func153
theorem nt_arrears_policy_between_int64_1 : Tryz.f153.ntmps = 20 := Tryz.ntmps153
def ic_arrears_policy_between_int64_1 : IC := (.seq (io [.o 4 (.box t0), em 5 cf])
  (.seq (io [el 7 false 1 t1, el 8 true 18 t4, .o 9 (.calv t7 [t8]), em 6 t9])
  (.seq (io [em 10 t6, el 11 false 1 t2, el 12 true 18 t4, .o 13 (.calv t11 [t12]), eb 14 .geq t10 t13, em 15 t14, .og 16 15 true (.mv t6), .og 17 15 true (.ld false 1 t3), .og 18 15 true (.bin .leq t16 t17), .o 19 (.pick t15 t18 cf), em 5 t19])
  .ret)))
theorem hc_arrears_policy_between_int64_1 : compF Tryz.prog 20 Tryz.f153 = some (ic_arrears_policy_between_int64_1, [.t 5]) := by kernel_rfl
theorem fn_arrears_policy_from_int64_1 : Tryz.prog.funcs[arrears_policy_from_int64_1]? = some Tryz.f154 := Tryz.func154
theorem nt_arrears_policy_from_int64_1 : Tryz.f154.ntmps = 5 := Tryz.ntmps154
def ic_arrears_policy_from_int64_1 : IC := (.seq (io [.o 2 (.box t0), em 3 (ci 0)])
  (.seq (io [el 4 false 1 t1, em 3 t4])
  .ret))
theorem hc_arrears_policy_from_int64_1 : compF Tryz.prog 5 Tryz.f154 = some (ic_arrears_policy_from_int64_1, [.t 3]) := by kernel_rfl
theorem fn_r10_amounts : Tryz.prog.funcs[r10_amounts]? = some Tryz.f156 := Tryz.func156
theorem nt_r10_amounts : Tryz.f156.ntmps = 25 := Tryz.ntmps156
def ic_r10_amounts : IC := (.seq (io [em 2 (.c (.slice none 0 0))])
  (.seq (io [em 3 (.c (.slice none 0 0))])
  (.seq (.seq (io [em 4 (ci 0)])
  (.block 0 (.loop (.seq (.seq (io [em 5 t4, em 6 t0, .o 7 (.len t6), eb 8 .lss t5 t7])
  (.cond t8
  .skip
  (.exit 0)))
  (.seq (.block 1 (.dops [em 11 t3, em 12 t0, em 13 t4, es 14 4 t12 t13, ef 15 1 1 t14, el 16 false 1 t15, em 17 t0, em 18 t4, es 19 4 t17 t18, ef 20 2 2 t19, el 21 false 1 t20, .o 22 (.bsl 1 2 zi [(0, 0, 1, t16), (1, 1, 1, t21)]), .o 23 (.app 1 8 2 t11 t22), em 3 t23]))
  (.ops [em 9 t4, eb 10 .add t9 (ci 1), em 4 t10]))))))
  (.seq (io [em 24 t3, em 2 t24])
  .ret))))
theorem hc_r10_amounts : compF Tryz.prog 25 Tryz.f156 = some (ic_r10_amounts, [.t 2]) := by kernel_rfl
theorem fn_math_bits_Len64 : Tryz.prog.funcs[math_bits_Len64]? = some Tryz.f157 := Tryz.func157
theorem nt_math_bits_Len64 : Tryz.f157.ntmps = 25 := Tryz.ntmps157
def ic_math_bits_Len64 : IC := (.seq (io [em 2 (ci 0)])
  (.seq (.seq (io [em 3 t0, eb 4 .geq t3 (.c (.int .u64 4294967296))])
  (.cond t4
  (.seq (io [em 5 t0, eb 6 .shr t5 (.c (.int .u64 32)), em 0 t6])
  (.ops [em 2 (ci 32)]))
  .skip))
  (.seq (.seq (io [em 7 t0, eb 8 .geq t7 (.c (.int .u64 65536))])
  (.cond t8
  (.seq (io [em 9 t0, eb 10 .shr t9 (.c (.int .u64 16)), em 0 t10])
  (.ops [em 11 t2, eb 12 .add t11 (ci 16), em 2 t12]))
  .skip))
  (.seq (.seq (io [em 13 t0, eb 14 .geq t13 (.c (.int .u64 256))])
  (.cond t14
  (.seq (io [em 15 t0, eb 16 .shr t15 (.c (.int .u64 8)), em 0 t16])
  (.ops [em 17 t2, eb 18 .add t17 (ci 8), em 2 t18]))
  .skip))
  (.seq (io [em 19 t2, em 20 t0, .o 21 (.conv .u8 t20), .o 22 (.ixb (.c (.string ⟨#[0, 1, 2, 2, 3, 3, 3, 3, 4, 4, 4, 4, 4, 4, 4, 4, 5, 5, 5, 5, 5, 5, 5, 5, 5, 5, 5, 5, 5, 5, 5, 5, 6, 6, 6, 6, 6, 6, 6, 6, 6, 6, 6, 6, 6, 6, 6, 6, 6, 6, 6, 6, 6, 6, 6, 6, 6, 6, 6, 6, 6, 6, 6, 6, 7, 7, 7, 7, 7, 7, 7, 7, 7, 7, 7, 7, 7, 7, 7, 7, 7, 7, 7, 7, 7, 7, 7, 7, 7, 7, 7, 7, 7, 7, 7, 7, 7, 7, 7, 7, 7, 7, 7, 7, 7, 7, 7, 7, 7, 7, 7, 7, 7, 7, 7, 7, 7, 7, 7, 7, 7, 7, 7, 7, 7, 7, 7, 7, 8, 8, 8, 8, 8, 8, 8, 8, 8, 8, 8, 8, 8, 8, 8, 8, 8, 8, 8, 8, 8, 8, 8, 8, 8, 8, 8, 8, 8, 8, 8, 8, 8, 8, 8, 8, 8, 8, 8, 8, 8, 8, 8, 8, 8, 8, 8, 8, 8, 8, 8, 8, 8, 8, 8, 8, 8, 8, 8, 8, 8, 8, 8, 8, 8, 8, 8, 8, 8, 8, 8, 8, 8, 8, 8, 8, 8, 8, 8, 8, 8, 8, 8, 8, 8, 8, 8, 8, 8, 8, 8, 8, 8, 8, 8, 8, 8, 8, 8, 8, 8, 8, 8, 8, 8, 8, 8, 8, 8, 8, 8, 8, 8, 8, 8, 8, 8, 8, 8, 8, 8, 8, 8, 8, 8, 8, 8, 8]⟩)) t21), .o 23 (.conv .i64 t22), eb 24 .add t19 t23, em 2 t24])
  .ret)))))
theorem hc_math_bits_Len64 : compF Tryz.prog 25 Tryz.f157 = some (ic_math_bits_Len64, [.t 2]) := by kernel_rfl
theorem fn_r3_isRate : Tryz.prog.funcs[r3_isRate]? = some Tryz.f158 := Tryz.func158
theorem nt_r3_isRate : Tryz.f158.ntmps = 9 := Tryz.ntmps158
def ic_r3_isRate : IC := (.seq (io [em 2 cf])
  (.seq (io [em 3 t0, eb 4 .geq t3 (ci 0), em 5 t4, .og 6 5 true (.mv t0), .og 7 5 true (.bin .leq t6 (ci 100000)), .o 8 (.pick t5 t7 cf), em 2 t8])
  .ret))
theorem hc_r3_isRate : compF Tryz.prog 9 Tryz.f158 = some (ic_r3_isRate, [.t 2]) := by kernel_rfl
theorem fn_r3_PaysOff : Tryz.prog.funcs[r3_PaysOff]? = some Tryz.f159 := Tryz.func159
theorem nt_r3_PaysOff : Tryz.f159.ntmps = 32 := Tryz.ntmps159
def ic_r3_PaysOff : IC := (.seq (io [em 8 cf])
  (.seq (.seq (io [em 9 (ci 0)])
  (.block 0 (.loop (.seq (.seq (io [em 11 t9, em 12 t3, eb 13 .lss t11 t12])
  (.cond t13
  .skip
  (.exit 0)))
  (.seq (.block 1 (.seq (io [em 16 t1, em 17 t2, ec 18 135 [t16, t17], em 10 t18])
  (.seq (.seq (io [em 19 t0, em 20 t10, eb 21 .leq t19 t20])
  (.cond t21
  (.seq (io [em 8 cf])
  .ret)
  .skip))
  (.seq (.seq (io [em 22 t0, em 23 t10, eb 24 .sub t22 t23, em 25 t1, eb 26 .geq t24 t25])
  (.cond t26
  (.seq (io [em 8 ct])
  .ret)
  .skip))
  (.ops [em 27 t1, em 28 t0, em 29 t10, eb 30 .sub t28 t29, eb 31 .sub t27 t30, em 1 t31])))))
  (.ops [em 14 t9, eb 15 .add t14 (ci 1), em 9 t15]))))))
  (.seq (io [em 8 cf])
  .ret)))
theorem hc_r3_PaysOff : compF Tryz.prog 32 Tryz.f159 = some (ic_r3_PaysOff, [.t 8]) := by kernel_rfl
theorem fn_r2_Civil : Tryz.prog.funcs[r2_Civil]? = some Tryz.f160 := Tryz.func160
theorem nt_r2_Civil : Tryz.f160.ntmps = 48 := Tryz.ntmps160
def ic_r2_Civil : IC := (.seq (io [.o 2 (.alloc (.st (zc (zc (zc .nil))))), em 3 cf])
  (.seq (.seq (io [em 8 t0, ec 9 176 [t8], .o 10 (.un .not t9)])
  (.cond t10
  (.seq (io [.o 11 (.build (.st (zc (zc (zc .nil)))) []), .n (.sto 3 t2 t11), em 3 cf])
  .ret)
  .skip))
  (.seq (io [em 12 t0, eb 13 .sub t12 (ci 1), eb 14 .quo t13 (ci 146097), em 4 t14])
  (.seq (io [em 15 t0, em 16 t4, eb 17 .mul t16 (ci 146097), eb 18 .sub t15 t17, em 5 t18])
  (.seq (io [em 19 t4, eb 20 .mul (ci 400) t19, eb 21 .add t20 (ci 1), em 6 t21])
  (.seq (.block 0 (.loop (.seq (.seq (io [em 22 t5, em 23 t6, ec 24 177 [t23], eb 25 .gtr t22 t24])
  (.cond t25
  .skip
  (.exit 0)))
  (.block 1 (.seq (io [em 26 t5, em 27 t6, ec 28 177 [t27], eb 29 .sub t26 t28, em 5 t29])
  (.ops [em 30 t6, eb 31 .add t30 (ci 1), em 6 t31]))))))
  (.seq (io [em 7 (ci 1)])
  (.seq (.block 2 (.loop (.seq (.seq (io [em 32 t5, em 33 t6, em 34 t7, ec 35 178 [t33, t34], eb 36 .gtr t32 t35])
  (.cond t36
  .skip
  (.exit 2)))
  (.block 3 (.seq (io [em 37 t5, em 38 t6, em 39 t7, ec 40 178 [t38, t39], eb 41 .sub t37 t40, em 5 t41])
  (.ops [em 42 t7, eb 43 .add t42 (ci 1), em 7 t43]))))))
  (.seq (io [em 44 t6, em 45 t7, em 46 t5, .o 47 (.build (.st (zc (zc (zc .nil)))) [(0, 0, 1, t44), (1, 1, 1, t45), (2, 2, 1, t46)]), .n (.sto 3 t2 t47), em 3 ct])
  .ret)))))))))
theorem hc_r2_Civil : compF Tryz.prog 48 Tryz.f160 = some (ic_r2_Civil, [.c 2 true 3, .t 3]) := by kernel_rfl
theorem fn_r2_AddMonths : Tryz.prog.funcs[r2_AddMonths]? = some Tryz.f161 := Tryz.func161
theorem nt_r2_AddMonths : Tryz.f161.ntmps = 78 := Tryz.ntmps161
def ic_r2_AddMonths : IC := (.seq (io [em 6 (ci 0), em 7 cf])
  (.seq (.seq (io [em 16 t0, ec 17 176 [t16], .o 18 (.un .not t17), em 19 t18, .og 20 19 false (.mv t2), .og 21 19 false (.bin .lss t20 (ci 1)), .o 22 (.pick t19 ct t21), em 23 t22, .og 24 23 false (.mv t2), .og 25 23 false (.bin .gtr t24 (ci 31)), .o 26 (.pick t23 ct t25), em 27 t26, .og 28 27 false (.mv t1), .og 29 27 false (.bin .lss t28 (ci (-119987))), .o 30 (.pick t27 ct t29), em 31 t30, .og 32 31 false (.mv t1), .og 33 31 false (.bin .gtr t32 (ci 119987)), .o 34 (.pick t31 ct t33)])
  (.cond t34
  (.seq (io [em 6 (ci 0), em 7 cf])
  .ret)
  .skip))
  (.seq (io [em 36 t0, ec 37 160 [t36], em 35 t37, ex 38 0 t35, ex 39 1 t35, .o 8 (.alloc (.st (zc (zc (zc .nil))))), .n (.sto 3 t8 t38), em 9 t39])
  (.seq (io [ef 40 0 0 t8, el 41 false 1 t40, eb 42 .sub t41 (ci 1), eb 43 .mul (ci 12) t42, ef 44 1 1 t8, el 45 false 1 t44, eb 46 .add t43 t45, eb 47 .sub t46 (ci 1), em 48 t1, eb 49 .add t47 t48, em 10 t49])
  (.seq (.seq (io [em 50 t10, eb 51 .lss t50 (ci 0), em 52 t51, .og 53 52 false (.mv t10), .og 54 52 false (.bin .geq t53 (ci 119988)), .o 55 (.pick t52 ct t54)])
  (.cond t55
  (.seq (io [em 6 (ci 0), em 7 cf])
  .ret)
  .skip))
  (.seq (io [em 56 t10, eb 57 .quo t56 (ci 12), eb 58 .add t57 (ci 1), em 11 t58])
  (.seq (io [em 59 t10, eb 60 .rem t59 (ci 12), eb 61 .add t60 (ci 1), em 12 t61])
  (.seq (io [em 62 t11, em 63 t12, ec 64 178 [t62, t63], em 13 t64])
  (.seq (.seq (io [em 65 t2, em 66 t13, eb 67 .lss t65 t66])
  (.cond t67
  (.ops [em 68 t2, em 13 t68])
  .skip))
  (.seq (io [em 70 t11, em 71 t12, em 72 t13, .o 73 (.build (.st (zc (zc (zc .nil)))) [(0, 0, 1, t70), (1, 1, 1, t71), (2, 2, 1, t72)]), ec 74 179 [t73], em 69 t74, ex 75 0 t69, ex 76 1 t69, em 14 t75, em 15 t76])
  (.seq (io [em 77 t14, em 6 t77, em 7 ct])
  .ret)))))))))))
theorem hc_r2_AddMonths : compF Tryz.prog 78 Tryz.f161 = some (ic_r2_AddMonths, [.t 6, .t 7]) := by kernel_rfl
theorem fn_r2_Adjust : Tryz.prog.funcs[r2_Adjust]? = some Tryz.f162 := Tryz.func162
theorem nt_r2_Adjust : Tryz.f162.ntmps = 65 := Tryz.ntmps162
def ic_r2_Adjust : IC := (.seq (io [em 6 (ci 0), em 7 cf])
  (.seq (.seq (io [em 14 t0, ec 15 176 [t14], .o 16 (.un .not t15)])
  (.cond t16
  (.seq (io [em 6 (ci 0), em 7 cf])
  .ret)
  .skip))
  (.seq (.seq (io [em 17 t2])
  (.block 0 (.seq (io [eb 19 .eql t17 (ci 0), em 18 t19])
  (.cond t18
  (.seq (io [em 20 t0, em 6 t20, em 7 ct])
  .ret)
  (.seq (io [eb 22 .eql t17 (ci 1), em 21 t22])
  (.cond t21
  (.seq (io [em 23 t0, em 24 t1, ec 25 180 [t23, t24, (ci 1)], ex 26 0 t25, ex 27 1 t25, em 6 t26, em 7 t27])
  .ret)
  (.seq (io [eb 29 .eql t17 (ci 2), em 28 t29])
  (.cond t28
  (.seq (io [em 30 t0, em 31 t1, ec 32 180 [t30, t31, (ci (-1))], ex 33 0 t32, ex 34 1 t32, em 6 t33, em 7 t34])
  .ret)
  (.seq (io [eb 36 .eql t17 (ci 3), em 35 t36])
  (.cond t35
  (.seq (io [em 38 t0, em 39 t1, ec 40 180 [t38, t39, (ci 1)], em 37 t40, ex 41 0 t37, ex 42 1 t37, em 8 t41, em 9 t42])
  (.seq (.seq (io [em 43 t9])
  (.cond t43
  (.seq (io [em 45 t0, ec 46 160 [t45], em 44 t46, ex 47 0 t44, ex 48 1 t44, .o 10 (.alloc (.st (zc (zc (zc .nil))))), .n (.sto 3 t10 t47), em 11 t48])
  (.seq (io [em 50 t8, ec 51 160 [t50], em 49 t51, ex 52 0 t49, ex 53 1 t49, .o 12 (.alloc (.st (zc (zc (zc .nil))))), .n (.sto 3 t12 t52), em 13 t53])
  (.seq (io [ef 54 1 1 t10, el 55 false 1 t54, ef 56 1 1 t12, el 57 false 1 t56, eb 58 .eql t55 t57])
  (.cond t58
  (.seq (io [em 59 t8, em 6 t59, em 7 ct])
  .ret)
  .skip))))
  .skip))
  (.seq (io [em 60 t0, em 61 t1, ec 62 180 [t60, t61, (ci (-1))], ex 63 0 t62, ex 64 1 t62, em 6 t63, em 7 t64])
  .ret)))
  .skip))))))))))
  (.seq (io [em 6 (ci 0), em 7 cf])
  .ret))))
theorem hc_r2_Adjust : compF Tryz.prog 65 Tryz.f162 = some (ic_r2_Adjust, [.t 6, .t 7]) := by kernel_rfl
theorem fn_r8_refused : Tryz.prog.funcs[r8_refused]? = some Tryz.f163 := Tryz.func163
theorem nt_r8_refused : Tryz.f163.ntmps = 23 := Tryz.ntmps163
def ic_r8_refused : IC := (.seq (io [.o 1 (.box t0), em 2 (ci 0)])
  (.seq (.seq (io [ef 3 0 0 t1, el 4 false 1 t3, ec 5 128 [t4], .o 6 (.un .not t5), em 7 t6, .og 8 7 false (.fa 1 1 t1), .og 9 7 false (.ld false 1 t8), .og 10 7 false (.call 128 [t9]), .og 11 7 false (.un .not t10), .o 12 (.pick t7 ct t11), em 13 t12, .og 14 13 false (.fa 0 0 t1), .og 15 13 false (.ld false 1 t14), .og 16 13 false (.fa 1 1 t1), .og 17 13 false (.ld false 1 t16), .og 18 13 false (.bin .eql t15 t17), .o 19 (.pick t13 ct t18)])
  (.cond t19
  (.seq (io [em 2 (ci 80)])
  .ret)
  .skip))
  (.seq (.seq (io [ef 20 2 2 t1, el 21 false 1 t20, eb 22 .lss t21 (ci 1)])
  (.cond t22
  (.seq (io [em 2 (ci 4)])
  .ret)
  .skip))
  (.seq (io [em 2 (ci 0)])
  .ret))))
theorem hc_r8_refused : compF Tryz.prog 23 Tryz.f163 = some (ic_r8_refused, [.t 2]) := by kernel_rfl
theorem fn_r8_moves : Tryz.prog.funcs[r8_moves]? = some Tryz.f164 := Tryz.func164
theorem nt_r8_moves : Tryz.f164.ntmps = 54 := Tryz.ntmps164
def ic_r8_moves : IC := (.seq (io [.o 3 (.box t0), em 6 (.c (.slice none 0 0))])
  (.seq (io [em 7 (.c (.slice none 0 0))])
  (.seq (io [em 9 t7, em 10 t2, ef 11 0 0 t3, .o 12 (.ixa 12 1 t11 t10), el 13 false 1 t12, .o 14 (.bsl 1 2 zi [(0, 0, 1, t13)]), .o 15 (.app 1 8 2 t9 t14), em 7 t15])
  (.seq (.seq (io [em 8 (ci 0)])
  (.block 0 (.loop (.seq (.seq (io [em 16 t8, em 17 t1, .o 18 (.len t17), eb 19 .lss t16 t18])
  (.cond t19
  .skip
  (.exit 0)))
  (.seq (.block 1 (.seq (.seq (io [em 22 t1, em 23 t8, es 24 3 t22 t23, ef 25 0 0 t24, el 26 false 1 t25, em 27 t2, eb 28 .eql t26 t27])
  (.cond t28
  (.ops [em 29 t7, em 30 t1, em 31 t8, es 32 3 t30 t31, ef 33 2 2 t32, el 34 false 1 t33, .o 35 (.bsl 1 2 zi [(0, 0, 1, t34)]), .o 36 (.app 1 8 2 t29 t35), em 7 t36])
  .skip))
  (.seq (io [em 37 t1, em 38 t8, es 39 3 t37 t38, ef 40 1 1 t39, el 41 false 1 t40, em 42 t2, eb 43 .eql t41 t42])
  (.cond t43
  (.ops [em 44 t7, em 45 t1, em 46 t8, es 47 3 t45 t46, ef 48 2 2 t47, el 49 false 1 t48, .o 50 (.un .neg t49), .o 51 (.bsl 1 2 zi [(0, 0, 1, t50)]), .o 52 (.app 1 8 2 t44 t51), em 7 t52])
  .skip))))
  (.ops [em 20 t8, eb 21 .add t20 (ci 1), em 8 t21]))))))
  (.seq (io [em 53 t7, em 6 t53])
  .ret)))))
theorem hc_r8_moves : compF Tryz.prog 54 Tryz.f164 = some (ic_r8_moves, [.t 6]) := by kernel_rfl
theorem fn_r8_OwnSide : Tryz.prog.funcs[r8_OwnSide]? = some Tryz.f165 := Tryz.func165
theorem nt_r8_OwnSide : Tryz.f165.ntmps = 11 := Tryz.ntmps165
def ic_r8_OwnSide : IC := (.seq (io [em 4 cf])
  (.seq (.seq (io [em 5 t0, ec 6 129 [t5]])
  (.cond t6
  (.seq (io [em 7 t1, eb 8 .geq t7 (ci 0), em 4 t8])
  .ret)
  .skip))
  (.seq (io [em 9 t1, eb 10 .leq t9 (ci 0), em 4 t10])
  .ret)))
theorem hc_r8_OwnSide : compF Tryz.prog 11 Tryz.f165 = some (ic_r8_OwnSide, [.t 4]) := by kernel_rfl
theorem fn_r3_Span : Tryz.prog.funcs[r3_Span]? = some Tryz.f166 := Tryz.func166
theorem nt_r3_Span : Tryz.f166.ntmps = 70 := Tryz.ntmps166
def ic_r3_Span : IC := (.seq (io [em 8 (ci 0), em 9 (ci 0), em 10 cf])
  (.seq (.seq (io [em 15 t0, eb 16 .lss t15 (ci 0), em 17 t16, .og 18 17 false (.mv t1), .og 19 17 false (.call 158 [t18]), .og 20 17 false (.un .not t19), .o 21 (.pick t17 ct t20), em 22 t21, .og 23 22 false (.mv t2), .og 24 22 false (.bin .lss t23 (ci 0)), .o 25 (.pick t22 ct t24), em 26 t25, .og 27 26 false (.mv t2), .og 28 26 false (.bin .geq t27 (ci 3650000)), .o 29 (.pick t26 ct t28), em 30 t29, .og 31 30 false (.mv t3), .og 32 30 false (.bin .lss t31 (ci 0)), .o 33 (.pick t30 ct t32), em 34 t33, .og 35 34 false (.mv t3), .og 36 34 false (.bin .gtr t35 (ci 3652059)), .o 37 (.pick t34 ct t36)])
  (.cond t37
  (.seq (io [em 8 (ci 0), em 9 (ci 0), em 10 cf])
  .ret)
  .skip))
  (.seq (io [em 38 t3, em 11 t38])
  (.seq (io [em 39 t0, eb 40 .quo t39 (ci 3650000), em 41 t1, eb 42 .mul t40 t41, em 12 t42])
  (.seq (io [em 43 t0, eb 44 .rem t43 (ci 3650000), em 45 t1, eb 46 .mul t44 t45, em 47 t11, eb 48 .mul t46 t47, em 49 t2, eb 50 .add t48 t49, em 13 t50])
  (.seq (io [em 51 t13, eb 52 .quo t51 (ci 3650000), em 14 t52])
  (.seq (.seq (io [em 53 t11, eb 54 .gtr t53 (ci 0), em 55 t54, .og 56 55 true (.mv t12), .og 57 55 true (.mv t14), .og 58 55 true (.bin .sub (ci 9223372036854775807) t57), .og 59 55 true (.mv t11), .og 60 55 true (.bin .quo t58 t59), .og 61 55 true (.bin .gtr t56 t60), .o 62 (.pick t55 t61 cf)])
  (.cond t62
  (.seq (io [em 8 (ci 0), em 9 (ci 0), em 10 cf])
  .ret)
  .skip))
  (.seq (io [em 63 t12, em 64 t11, eb 65 .mul t63 t64, em 66 t14, eb 67 .add t65 t66, em 68 t13, eb 69 .rem t68 (ci 3650000), em 8 t67, em 9 t69, em 10 ct])
  .ret))))))))
theorem hc_r3_Span : compF Tryz.prog 70 Tryz.f166 = some (ic_r3_Span, [.t 8, .t 9, .t 10]) := by kernel_rfl
theorem fn_r13_Step : Tryz.prog.funcs[r13_Step]? = some Tryz.f167 := Tryz.func167
theorem nt_r13_Step : Tryz.f167.ntmps = 55 := Tryz.ntmps167
def ic_r13_Step : IC := (.seq (io [.o 3 (.box t0), .o 4 (.box t1), .o 5 (.box t2), .o 6 (.alloc (.st (zc (zf (zc (zc (zc (zc (zc (zc (zc (zc (zc (zc (zc (zc (zc .nil))))))))))))))))), em 7 (.c (.slice none 0 0)), em 8 (ci 0)])
  (.seq (io [el 15 true 18 t3, ec 16 17 [t15], em 14 t16, ex 17 0 t14, ex 18 1 t14, em 9 t17, em 10 t18])
  (.seq (.seq (io [em 19 t9, eb 20 .neq t19 (ci 0)])
  (.cond t20
  (.seq (io [el 21 true 15 t4, .n (.sto 15 t6 t21), em 7 (.c (.slice none 0 0)), em 8 (ci 120)])
  .ret)
  .skip))
  (.seq (.seq (io [ef 22 0 0 t5, el 23 false 1 t22, eb 24 .lss t23 (ci 1), em 25 t24, .og 26 25 false (.fa 0 0 t5), .og 27 25 false (.ld false 1 t26), .og 28 25 false (.bin .gtr t27 (ci 7)), .o 29 (.pick t25 ct t28)])
  (.cond t29
  (.seq (io [el 30 true 15 t4, .n (.sto 15 t6 t30), em 7 (.c (.slice none 0 0)), em 8 (ci 2)])
  .ret)
  .skip))
  (.seq (io [el 31 true 18 t3, el 32 true 4 t5, ec 33 181 [t31, t32], em 11 t33])
  (.seq (.seq (io [em 34 t11, eb 35 .neq t34 (ci 0)])
  (.cond t35
  (.seq (io [el 36 true 15 t4, em 37 t11, .n (.sto 15 t6 t36), em 7 (.c (.slice none 0 0)), em 8 t37])
  .ret)
  .skip))
  (.seq (io [el 38 true 18 t3, el 39 true 15 t4, el 40 true 4 t5, ec 41 182 [t38, t39, t40], em 11 t41])
  (.seq (.seq (io [em 42 t11, eb 43 .neq t42 (ci 0)])
  (.cond t43
  (.seq (io [el 44 true 15 t4, em 45 t11, .n (.sto 15 t6 t44), em 7 (.c (.slice none 0 0)), em 8 t45])
  .ret)
  .skip))
  (.seq (io [el 47 true 18 t3, el 48 true 15 t4, el 49 true 4 t5, ec 50 183 [t47, t48, t49], em 46 t50, ex 51 0 t46, ex 52 1 t46, .o 12 (.alloc (.st (zc (zf (zc (zc (zc (zc (zc (zc (zc (zc (zc (zc (zc (zc (zc .nil))))))))))))))))), .n (.sto 15 t12 t51), em 13 t52])
  (.seq (io [el 53 true 15 t12, em 54 t13, .n (.sto 15 t6 t53), em 7 t54, em 8 (ci 0)])
  .ret))))))))))
theorem hc_r13_Step : compF Tryz.prog 55 Tryz.f167 = some (ic_r13_Step, [.c 6 true 15, .t 7, .t 8]) := by kernel_rfl
theorem fn_r14_acted : Tryz.prog.funcs[r14_acted]? = some Tryz.f168 := Tryz.func168
theorem nt_r14_acted : Tryz.f168.ntmps = 36 := Tryz.ntmps168
def ic_r14_acted : IC := (.seq (io [.o 2 (.box t0), .o 4 (.alloc (.st (.cons (.st (zc (zc (zc (zc (zc (zc (zc (zc (zc (zc (zc (zc (zc (zc (zc (zc (zc (.cons zs .nil))))))))))))))))))) (.cons (.st (zc (.cons (.st (zc (zc (zc (zc (zc (zc .nil))))))) (.cons zs (.cons (.st (.cons (.arr 12 1 fun _ => zi) .nil)) (.cons (.st (zc (zf (zc (zc (zc (zc (zc (zc (zc (zc (zc (zc (zc (zc (zc .nil)))))))))))))))) (zc (zc (zc (.cons (.st (zc (zc (zc (zc (zc .nil)))))) (zf (zc (zc .nil))))))))))))) (.cons (.st (zc (zc (zc (zc (zc .nil)))))) (.cons zs (zc .nil)))))))])
  (.seq (.seq (io [em 5 t1])
  (.block 0 (.seq (.seq (io [eb 7 .eql t5 (ci 1), em 6 t7])
  (.cond t6
  .skip
  (.seq (io [eb 8 .eql t5 (ci 2), em 6 t8])
  (.cond t6
  .skip
  (.ops [eb 9 .eql t5 (ci 3), em 6 t9])))))
  (.cond t6
  (.seq (.dops [el 10 true 71 t2, em 11 t1, ef 12 1 18 t2, el 13 true 46 t12, ec 14 44 [t13], ec 15 148 [t10, t11, t14], .n (.sto 71 t4 t15)])
  .ret)
  (.seq (io [eb 17 .eql t5 (ci 4), em 16 t17])
  (.cond t16
  (.seq (io [el 18 true 71 t2, ec 19 184 [t18], .n (.sto 71 t4 t19)])
  .ret)
  (.seq (io [eb 21 .eql t5 (ci 6), em 20 t21])
  (.cond t20
  (.seq (.dops [el 22 true 71 t2, ef 23 1 18 t2, el 24 true 46 t23, ec 25 46 [t24, (ci 5)], ec 26 90 [(.c (.slice none 0 0)), (ci 5), (ci 7), t25], ec 27 89 [t22, t26], .n (.sto 71 t2 t27)])
  (.seq (io [el 28 true 71 t2, ec 29 148 [t28, (ci 6), (ci 0)], .n (.sto 71 t4 t29)])
  .ret))
  (.seq (io [eb 31 .eql t5 (ci 8), em 30 t31])
  (.cond t30
  (.seq (io [el 32 true 71 t2, ec 33 147 [t32], ec 34 148 [t33, (ci 8), (ci 0)], .n (.sto 71 t4 t34)])
  .ret)
  .skip))))))))))
  (.seq (io [el 35 true 71 t2, .n (.sto 71 t4 t35)])
  .ret)))
theorem hc_r14_acted : compF Tryz.prog 36 Tryz.f168 = some (ic_r14_acted, [.c 4 true 71]) := by kernel_rfl
theorem fn_r13_Open : Tryz.prog.funcs[r13_Open]? = some Tryz.f169 := Tryz.func169
theorem nt_r13_Open : Tryz.f169.ntmps = 16 := Tryz.ntmps169
def ic_r13_Open : IC := (.seq (io [.o 1 (.box t0), em 2 cf])
  (.seq (io [ef 3 0 0 t1, el 4 false 1 t3, eb 5 .eql t4 (ci 3), em 6 t5, .og 7 6 false (.fa 0 0 t1), .og 8 6 false (.ld false 1 t7), .og 9 6 false (.bin .eql t8 (ci 4)), .o 10 (.pick t6 ct t9), em 11 t10, .og 12 11 false (.fa 0 0 t1), .og 13 11 false (.ld false 1 t12), .og 14 11 false (.bin .eql t13 (ci 5)), .o 15 (.pick t11 ct t14), em 2 t15])
  .ret))
theorem hc_r13_Open : compF Tryz.prog 16 Tryz.f169 = some (ic_r13_Open, [.t 2]) := by kernel_rfl
theorem fn_r10_Missed : Tryz.prog.funcs[r10_Missed]? = some Tryz.f170 := Tryz.func170
theorem nt_r10_Missed : Tryz.f170.ntmps = 46 := Tryz.ntmps170
def ic_r10_Missed : IC := (.seq (io [.o 5 (.box t1), em 8 (.c (.slice none 0 0))])
  (.seq (io [em 12 t0, ec 13 72 [t12], em 9 t13])
  (.seq (.seq (io [em 14 t3, eb 15 .lss t14 (ci 0)])
  (.cond t15
  (.ops [em 3 (ci 0)])
  .skip))
  (.seq (io [em 10 (.c (.slice none 0 0))])
  (.seq (.seq (io [em 16 t9, el 17 true 2 t5, ec 18 73 [t16, t17], em 11 t18])
  (.block 0 (.loop (.seq (.seq (io [em 19 t11, em 20 t9, .o 21 (.len t20), eb 22 .lss t19 t21])
  (.cond t22
  .skip
  (.exit 0)))
  (.seq (.block 1 (.seq (io [em 25 t9, em 26 t11, es 27 4 t25 t26, ef 28 3 3 t27, el 29 false 1 t28, .o 30 (.un .not t29), em 31 t30, .og 32 31 true (.mv t9), .og 33 31 true (.mv t11), .og 34 31 true (.ixs 4 t32 t33), .og 35 31 true (.ld true 4 t34), .og 36 31 true (.mv t2), .og 37 31 true (.call 125 [t35, t36]), .og 38 31 true (.mv t3), .og 39 31 true (.bin .gtr t37 t38), .o 40 (.pick t31 t39 cf)])
  (.cond t40
  (.ops [em 41 t10, em 42 t11, .o 43 (.bsl 1 3 zi [(0, 0, 1, t42)]), .o 44 (.app 1 8 3 t41 t43), em 10 t44])
  .skip)))
  (.ops [em 23 t11, eb 24 .add t23 (ci 1), em 11 t24]))))))
  (.seq (io [em 45 t10, em 8 t45])
  .ret))))))
theorem hc_r10_Missed : compF Tryz.prog 46 Tryz.f170 = some (ic_r10_Missed, [.t 8]) := by kernel_rfl
theorem fn_r12_Assess : Tryz.prog.funcs[r12_Assess]? = some Tryz.f171 := Tryz.func171
theorem nt_r12_Assess : Tryz.f171.ntmps = 37 := Tryz.ntmps171
def ic_r12_Assess : IC := (.seq (io [.o 4 (.box t0), em 8 (ci 0)])
  (.seq (.seq (io [el 10 true 18 t4, ec 11 185 [t10], .o 12 (.un .not t11)])
  (.cond t12
  (.seq (io [em 8 (ci 0)])
  .ret)
  .skip))
  (.seq (io [el 13 true 18 t4, em 14 t1, ec 15 186 [t13, t14], em 9 t15])
  (.seq (.seq (io [ef 16 7 7 t4, el 17 false 1 t16, em 18 t2, ec 19 187 [t17, t18], em 20 t9, eb 21 .lss t19 t20])
  (.cond t21
  (.ops [ef 22 7 7 t4, el 23 false 1 t22, em 24 t2, ec 25 187 [t23, t24], em 9 t25])
  .skip))
  (.seq (.seq (io [ef 26 8 8 t4, el 27 false 1 t26, em 28 t3, ec 29 187 [t27, t28], em 30 t9, eb 31 .lss t29 t30])
  (.cond t31
  (.ops [ef 32 8 8 t4, el 33 false 1 t32, em 34 t3, ec 35 187 [t33, t34], em 9 t35])
  .skip))
  (.seq (io [em 36 t9, em 8 t36])
  .ret))))))
theorem hc_r12_Assess : compF Tryz.prog 37 Tryz.f171 = some (ic_r12_Assess, [.t 8]) := by kernel_rfl
theorem fn_r10_Mark : Tryz.prog.funcs[r10_Mark]? = some Tryz.f172 := Tryz.func172
theorem nt_r10_Mark : Tryz.f172.ntmps = 37 := Tryz.ntmps172
def ic_r10_Mark : IC := (.seq (io [em 4 (.c (.slice none 0 0))])
  (.seq (io [em 5 (.c (.slice none 0 0))])
  (.seq (.seq (io [em 6 (ci 0)])
  (.block 0 (.loop (.seq (.seq (io [em 9 t6, em 10 t0, .o 11 (.len t10), eb 12 .lss t9 t11])
  (.cond t12
  .skip
  (.exit 0)))
  (.seq (.block 1 (.seq (io [em 15 t0, em 16 t6, es 17 4 t15 t16, el 18 true 4 t17, .o 7 (.alloc (.st (zc (zc (zc (zf .nil)))))), .n (.sto 4 t7 t18)])
  (.seq (.seq (io [em 8 (ci 0)])
  (.block 2 (.loop (.seq (.seq (io [em 19 t8, em 20 t1, .o 21 (.len t20), eb 22 .lss t19 t21])
  (.cond t22
  .skip
  (.exit 2)))
  (.seq (.block 3 (.seq (io [em 25 t1, em 26 t8, es 27 1 t25 t26, el 28 false 1 t27, em 29 t6, eb 30 .eql t28 t29])
  (.cond t30
  (.ops [ef 31 3 3 t7, .n (.sto 1 t31 ct)])
  .skip)))
  (.ops [em 23 t8, eb 24 .add t23 (ci 1), em 8 t24]))))))
  (.ops [em 32 t5, el 33 true 4 t7, .o 34 (.bsl 4 72 (.st (zc (zc (zc (zf .nil))))) [(0, 0, 4, t33)]), .o 35 (.app 4 32 72 t32 t34), em 5 t35]))))
  (.ops [em 13 t6, eb 14 .add t13 (ci 1), em 6 t14]))))))
  (.seq (io [em 36 t5, em 4 t36])
  .ret))))
theorem hc_r10_Mark : compF Tryz.prog 37 Tryz.f172 = some (ic_r10_Mark, [.t 4]) := by kernel_rfl
theorem fn_r9_Recover : Tryz.prog.funcs[r9_Recover]? = some Tryz.f173 := Tryz.func173
theorem nt_r9_Recover : Tryz.f173.ntmps = 25 := Tryz.ntmps173
def ic_r9_Recover : IC := (.seq (io [.o 4 (.alloc (.st (zc (zc (zc (zc (zc .nil))))))), em 5 (ci 0)])
  (.seq (io [.o 6 (.alloc (.st (zc (zc (zc (zc (zc .nil)))))))])
  (.seq (.seq (io [em 7 t0, eb 8 .lss t7 (ci 0)])
  (.cond t8
  (.seq (io [el 9 true 5 t6, .n (.sto 5 t4 t9), em 5 (ci 2)])
  .ret)
  .skip))
  (.seq (.seq (io [em 10 t1, eb 11 .lss t10 (ci 1)])
  (.cond t11
  (.seq (io [el 12 true 5 t6, .n (.sto 5 t4 t12), em 5 (ci 4)])
  .ret)
  .skip))
  (.seq (.seq (io [em 13 t1, em 14 t0, eb 15 .gtr t13 t14])
  (.cond t15
  (.seq (io [em 16 t0, ef 17 4 4 t6, .n (.sto 1 t17 t16)])
  (.ops [em 18 t1, em 19 t0, eb 20 .sub t18 t19, ef 21 3 3 t6, .n (.sto 1 t21 t20)]))
  (.ops [em 22 t1, ef 23 4 4 t6, .n (.sto 1 t23 t22)])))
  (.seq (io [el 24 true 5 t6, .n (.sto 5 t4 t24), em 5 (ci 0)])
  .ret))))))
theorem hc_r9_Recover : compF Tryz.prog 25 Tryz.f173 = some (ic_r9_Recover, [.c 4 true 5, .t 5]) := by kernel_rfl
theorem fn_r9_Allocate : Tryz.prog.funcs[r9_Allocate]? = some Tryz.f174 := Tryz.func174
theorem nt_r9_Allocate : Tryz.f174.ntmps = 61 := Tryz.ntmps174
def ic_r9_Allocate : IC := (.seq (io [.o 4 (.box t1), .o 6 (.alloc (.st (zc (zc (zc (zc (zc .nil))))))), em 7 (ci 0)])
  (.seq (io [.o 8 (.alloc (.st (zc (zc (zc (zc (zc .nil)))))))])
  (.seq (.seq (io [em 11 t0, ec 12 188 [t11, (ci 0)], eb 13 .lss t12 (ci 0), em 14 t13, .og 15 14 false (.fa 0 0 t4), .og 16 14 false (.ld false 1 t15), .og 17 14 false (.bin .lss t16 (ci 0)), .o 18 (.pick t14 ct t17), em 19 t18, .og 20 19 false (.fa 1 1 t4), .og 21 19 false (.ld false 1 t20), .og 22 19 false (.bin .lss t21 (ci 0)), .o 23 (.pick t19 ct t22), em 24 t23, .og 25 24 false (.fa 2 2 t4), .og 26 24 false (.ld false 1 t25), .og 27 24 false (.bin .lss t26 (ci 0)), .o 28 (.pick t24 ct t27)])
  (.cond t28
  (.seq (io [el 29 true 5 t8, .n (.sto 5 t6 t29), em 7 (ci 2)])
  .ret)
  .skip))
  (.seq (.seq (io [em 30 t2, eb 31 .lss t30 (ci 1)])
  (.cond t31
  (.seq (io [el 32 true 5 t8, .n (.sto 5 t6 t32), em 7 (ci 4)])
  .ret)
  .skip))
  (.seq (.seq (io [em 9 (ci 0)])
  (.block 0 (.loop (.seq (.seq (io [em 33 t9, eb 34 .lss t33 (ci 3)])
  (.cond t34
  .skip
  (.exit 0)))
  (.seq (.block 1 (.seq (io [em 37 t0, el 38 true 3 t4, em 39 t2, em 40 t9, ec 41 189 [t37, t38, t39, t40], em 10 t41])
  (.seq (io [em 42 t0, em 43 t9, ec 44 188 [t42, t43]])
  (.block 2 (.seq (io [eb 48 .eql t44 (ci 3), em 47 t48])
  (.cond t47
  (.ops [em 49 t10, ef 50 0 0 t8, .n (.sto 1 t50 t49)])
  (.seq (io [eb 52 .eql t44 (ci 2), em 51 t52])
  (.cond t51
  (.ops [em 53 t10, ef 54 1 1 t8, .n (.sto 1 t54 t53)])
  (.ops [em 45 t10, ef 46 2 2 t8, .n (.sto 1 t46 t45)])))))))))
  (.ops [em 35 t9, eb 36 .add t35 (ci 1), em 9 t36]))))))
  (.seq (io [em 55 t0, el 56 true 3 t4, em 57 t2, ec 58 189 [t55, t56, t57, (ci 3)], ef 59 3 3 t8, .n (.sto 1 t59 t58)])
  (.seq (io [el 60 true 5 t8, .n (.sto 5 t6 t60), em 7 (ci 0)])
  .ret)))))))
theorem hc_r9_Allocate : compF Tryz.prog 61 Tryz.f174 = some (ic_r9_Allocate, [.c 6 true 5, .t 7]) := by kernel_rfl
theorem fn_r9_moves : Tryz.prog.funcs[r9_moves]? = some Tryz.f175 := Tryz.func175
theorem nt_r9_moves : Tryz.f175.ntmps = 31 := Tryz.ntmps175
def ic_r9_moves : IC := (.seq (io [.o 2 (.box t0), em 4 (.c (.slice none 0 0))])
  (.seq (io [em 5 (.c (.slice none 0 0))])
  (.seq (io [em 6 t5, ef 7 0 0 t2, el 8 false 1 t7, em 9 t1, ec 10 190 [t6, (ci 3), t8, t9], em 5 t10])
  (.seq (io [em 11 t5, ef 12 1 1 t2, el 13 false 1 t12, em 14 t1, ec 15 190 [t11, (ci 2), t13, t14], em 5 t15])
  (.seq (io [em 16 t5, ef 17 2 2 t2, el 18 false 1 t17, em 19 t1, ec 20 190 [t16, (ci 1), t18, t19], em 5 t20])
  (.seq (io [em 21 t5, ef 22 3 3 t2, el 23 false 1 t22, em 24 t1, ec 25 190 [t21, (ci 4), t23, t24], em 5 t25])
  (.seq (io [em 26 t5, ef 27 4 4 t2, el 28 false 1 t27, em 29 t1, ec 30 190 [t26, (ci 10), t28, t29], em 4 t30])
  .ret)))))))
theorem hc_r9_moves : compF Tryz.prog 31 Tryz.f175 = some (ic_r9_moves, [.t 4]) := by kernel_rfl
theorem fn_r2_isDay : Tryz.prog.funcs[r2_isDay]? = some Tryz.f176 := Tryz.func176
theorem nt_r2_isDay : Tryz.f176.ntmps = 9 := Tryz.ntmps176
def ic_r2_isDay : IC := (.seq (io [em 2 cf])
  (.seq (io [em 3 t0, eb 4 .geq t3 (ci 1), em 5 t4, .og 6 5 true (.mv t0), .og 7 5 true (.bin .leq t6 (ci 3652059)), .o 8 (.pick t5 t7 cf), em 2 t8])
  .ret))
theorem hc_r2_isDay : compF Tryz.prog 9 Tryz.f176 = some (ic_r2_isDay, [.t 2]) := by kernel_rfl
theorem fn_r2_yearLen : Tryz.prog.funcs[r2_yearLen]? = some Tryz.f177 := Tryz.func177
theorem nt_r2_yearLen : Tryz.f177.ntmps = 5 := Tryz.ntmps177
def ic_r2_yearLen : IC := (.seq (io [em 2 (ci 0)])
  (.seq (.seq (io [em 3 t0, ec 4 191 [t3]])
  (.cond t4
  (.seq (io [em 2 (ci 366)])
  .ret)
  .skip))
  (.seq (io [em 2 (ci 365)])
  .ret)))
theorem hc_r2_yearLen : compF Tryz.prog 5 Tryz.f177 = some (ic_r2_yearLen, [.t 2]) := by kernel_rfl
theorem fn_r2_lenOf : Tryz.prog.funcs[r2_lenOf]? = some Tryz.f178 := Tryz.func178
theorem nt_r2_lenOf : Tryz.f178.ntmps = 15 := Tryz.ntmps178
def ic_r2_lenOf : IC := (.seq (io [em 4 (ci 0)])
  (.seq (.seq (io [em 5 t1])
  (.block 0 (.seq (io [eb 7 .eql t5 (ci 2), em 6 t7])
  (.cond t6
  (.seq (.seq (io [em 8 t0, ec 9 191 [t8]])
  (.cond t9
  (.seq (io [em 4 (ci 29)])
  .ret)
  .skip))
  (.seq (io [em 4 (ci 28)])
  .ret))
  (.seq (.seq (io [eb 11 .eql t5 (ci 4), em 10 t11])
  (.cond t10
  .skip
  (.seq (io [eb 12 .eql t5 (ci 6), em 10 t12])
  (.cond t10
  .skip
  (.seq (io [eb 13 .eql t5 (ci 9), em 10 t13])
  (.cond t10
  .skip
  (.ops [eb 14 .eql t5 (ci 11), em 10 t14])))))))
  (.cond t10
  (.seq (io [em 4 (ci 30)])
  .ret)
  .skip))))))
  (.seq (io [em 4 (ci 31)])
  .ret)))
theorem hc_r2_lenOf : compF Tryz.prog 15 Tryz.f178 = some (ic_r2_lenOf, [.t 4]) := by kernel_rfl
theorem fn_r2_Number : Tryz.prog.funcs[r2_Number]? = some Tryz.f179 := Tryz.func179
theorem nt_r2_Number : Tryz.f179.ntmps = 56 := Tryz.ntmps179
def ic_r2_Number : IC := (.seq (io [.o 1 (.box t0), em 2 (ci 0), em 3 cf])
  (.seq (.seq (.dops [ef 8 2 2 t1, el 9 false 1 t8, eb 10 .lss t9 (ci 1), em 11 t10, .og 12 11 false (.fa 2 2 t1), .og 13 11 false (.ld false 1 t12), .og 14 11 false (.fa 0 0 t1), .og 15 11 false (.ld false 1 t14), .og 16 11 false (.fa 1 1 t1), .og 17 11 false (.ld false 1 t16), .og 18 11 false (.call 192 [t15, t17]), .og 19 11 false (.bin .gtr t13 t18), .o 20 (.pick t11 ct t19)])
  (.cond t20
  (.seq (io [em 2 (ci 0), em 3 cf])
  .ret)
  .skip))
  (.seq (io [ef 21 0 0 t1, el 22 false 1 t21, eb 23 .sub t22 (ci 1), eb 24 .quo t23 (ci 400), em 4 t24])
  (.seq (io [em 25 t4, eb 26 .mul t25 (ci 146097), em 5 t26])
  (.seq (.seq (io [em 27 t4, eb 28 .mul (ci 400) t27, eb 29 .add t28 (ci 1), em 6 t29])
  (.block 0 (.loop (.seq (.seq (io [em 30 t6, ef 31 0 0 t1, el 32 false 1 t31, eb 33 .lss t30 t32])
  (.cond t33
  .skip
  (.exit 0)))
  (.seq (.block 1 (.ops [em 36 t5, em 37 t6, ec 38 177 [t37], eb 39 .add t36 t38, em 5 t39]))
  (.ops [em 34 t6, eb 35 .add t34 (ci 1), em 6 t35]))))))
  (.seq (.seq (io [em 7 (ci 1)])
  (.block 2 (.loop (.seq (.seq (io [em 40 t7, ef 41 1 1 t1, el 42 false 1 t41, eb 43 .lss t40 t42])
  (.cond t43
  .skip
  (.exit 2)))
  (.seq (.block 3 (.ops [em 46 t5, ef 47 0 0 t1, el 48 false 1 t47, em 49 t7, ec 50 178 [t48, t49], eb 51 .add t46 t50, em 5 t51]))
  (.ops [em 44 t7, eb 45 .add t44 (ci 1), em 7 t45]))))))
  (.seq (io [em 52 t5, ef 53 2 2 t1, el 54 false 1 t53, eb 55 .add t52 t54, em 2 t55, em 3 ct])
  .ret)))))))
theorem hc_r2_Number : compF Tryz.prog 56 Tryz.f179 = some (ic_r2_Number, [.t 2, .t 3]) := by kernel_rfl
theorem fn_r2_sought : Tryz.prog.funcs[r2_sought]? = some Tryz.f180 := Tryz.func180
theorem nt_r2_sought : Tryz.f180.ntmps = 25 := Tryz.ntmps180
def ic_r2_sought : IC := (.seq (io [em 6 (ci 0), em 7 cf])
  (.seq (.seq (io [em 8 (ci 0)])
  (.block 0 (.loop (.seq (.seq (io [em 9 t8, eb 10 .leq t9 (ci 10)])
  (.cond t10
  .skip
  (.exit 0)))
  (.seq (.block 1 (.seq (io [em 13 t0, em 14 t8, em 15 t2, eb 16 .mul t14 t15, eb 17 .add t13 t16, em 18 t1, ec 19 193 [t17, t18]])
  (.cond t19
  (.seq (io [em 20 t0, em 21 t8, em 22 t2, eb 23 .mul t21 t22, eb 24 .add t20 t23, em 6 t24, em 7 ct])
  .ret)
  .skip)))
  (.ops [em 11 t8, eb 12 .add t11 (ci 1), em 8 t12]))))))
  (.seq (io [em 6 (ci 0), em 7 cf])
  .ret)))
theorem hc_r2_sought : compF Tryz.prog 25 Tryz.f180 = some (ic_r2_sought, [.t 6, .t 7]) := by kernel_rfl
theorem fn_r13_numbers : Tryz.prog.funcs[r13_numbers]? = some Tryz.f181 := Tryz.func181
theorem nt_r13_numbers : Tryz.f181.ntmps = 58 := Tryz.ntmps181
def ic_r13_numbers : IC := (.seq (io [.o 2 (.box t0), .o 3 (.box t1), em 4 (ci 0)])
  (.seq (io [ef 6 1 1 t3, el 7 false 1 t6, eb 8 .geq t7 (ci 1), em 9 t8, .og 10 9 true (.fa 1 1 t3), .og 11 9 true (.ld false 1 t10), .og 12 9 true (.bin .leq t11 (ci 3652059)), .o 13 (.pick t9 t12 cf), em 5 t13])
  (.seq (.seq (io [ef 14 0 0 t3, el 15 false 1 t14])
  (.block 0 (.seq (io [eb 17 .eql t15 (ci 1), em 16 t17])
  (.cond t16
  (.seq (io [em 18 t5, .o 19 (.un .not t18), em 20 t19, .og 21 20 false (.fa 2 2 t3), .og 22 20 false (.ld false 1 t21), .og 23 20 false (.bin .lss t22 (ci 0)), .o 24 (.pick t20 ct t23)])
  (.cond t24
  (.seq (io [em 4 (ci 2)])
  .ret)
  .skip))
  (.seq (io [eb 26 .eql t15 (ci 2), em 25 t26])
  (.cond t25
  (.seq (.seq (io [ef 27 3 3 t3, el 28 false 1 t27, eb 29 .lss t28 (ci 1)])
  (.cond t29
  (.seq (io [em 4 (ci 4)])
  .ret)
  .skip))
  (.seq (io [ef 30 2 2 t3, el 31 false 1 t30, eb 32 .lss t31 (ci 0)])
  (.cond t32
  (.seq (io [em 4 (ci 2)])
  .ret)
  .skip)))
  (.seq (.seq (io [eb 34 .eql t15 (ci 3), em 33 t34])
  (.cond t33
  .skip
  (.ops [eb 35 .eql t15 (ci 6), em 33 t35])))
  (.cond t33
  (.seq (io [ef 36 3 3 t3, el 37 false 1 t36, eb 38 .lss t37 (ci 1)])
  (.cond t38
  (.seq (io [em 4 (ci 4)])
  .ret)
  .skip))
  (.seq (io [eb 40 .eql t15 (ci 4), em 39 t40])
  (.cond t39
  (.seq (.seq (io [em 41 t5, .o 42 (.un .not t41), em 43 t42, .og 44 43 false (.fa 2 2 t3), .og 45 43 false (.ld false 1 t44), .og 46 43 false (.bin .lss t45 (ci 1)), .o 47 (.pick t43 ct t46), em 48 t47, .og 49 48 false (.fa 2 2 t3), .og 50 48 false (.ld false 1 t49), .og 51 48 false (.fa 10 10 t2), .og 52 48 false (.ld false 1 t51), .og 53 48 false (.bin .gtr t50 t52), .o 54 (.pick t48 ct t53)])
  (.cond t54
  (.seq (io [em 4 (ci 2)])
  .ret)
  .skip))
  (.seq (io [ef 55 3 3 t3, el 56 false 1 t55, eb 57 .lss t56 (ci 1)])
  (.cond t57
  (.seq (io [em 4 (ci 4)])
  .ret)
  .skip)))
  .skip))))))))))
  (.seq (io [em 4 (ci 0)])
  .ret))))
theorem hc_r13_numbers : compF Tryz.prog 58 Tryz.f181 = some (ic_r13_numbers, [.t 4]) := by kernel_rfl
theorem fn_r13_standing : Tryz.prog.funcs[r13_standing]? = some Tryz.f182 := Tryz.func182
theorem nt_r13_standing : Tryz.f182.ntmps = 89 := Tryz.ntmps182
def ic_r13_standing : IC := (.seq (io [.o 3 (.box t0), .o 4 (.box t1), .o 5 (.box t2), em 6 (ci 0)])
  (.seq (.seq (io [ef 7 0 0 t4, el 8 false 1 t7, eb 9 .eql t8 (ci 8), em 10 t9, .og 11 10 false (.fa 0 0 t4), .og 12 10 false (.ld false 1 t11), .og 13 10 false (.bin .eql t12 (ci 9)), .o 14 (.pick t10 ct t13)])
  (.cond t14
  (.seq (io [em 6 (ci 130)])
  .ret)
  .skip))
  (.seq (.seq (io [ef 15 0 0 t5, el 16 false 1 t15, eb 17 .eql t16 (ci 4), em 18 t17, .og 19 18 false (.fa 0 0 t5), .og 20 18 false (.ld false 1 t19), .og 21 18 false (.bin .eql t20 (ci 5)), .o 22 (.pick t18 ct t21), em 23 t22, .og 24 23 false (.fa 0 0 t5), .og 25 23 false (.ld false 1 t24), .og 26 23 false (.bin .eql t25 (ci 6)), .o 27 (.pick t23 ct t26), em 28 t27, .og 29 28 true (.ld true 15 t4), .og 30 28 true (.call 169 [t29]), .og 31 28 true (.un .not t30), .o 32 (.pick t28 t31 cf)])
  (.cond t32
  (.seq (io [em 6 (ci 131)])
  .ret)
  .skip))
  (.seq (.seq (io [ef 33 0 0 t5, el 34 false 1 t33, eb 35 .eql t34 (ci 4), em 36 t35, .og 37 36 false (.fa 0 0 t5), .og 38 36 false (.ld false 1 t37), .og 39 36 false (.bin .eql t38 (ci 6)), .o 40 (.pick t36 ct t39), em 41 t40, .og 42 41 true (.fa 0 0 t4), .og 43 41 true (.ld false 1 t42), .og 44 41 true (.bin .eql t43 (ci 4)), .o 45 (.pick t41 t44 cf)])
  (.cond t45
  (.seq (io [em 6 (ci 132)])
  .ret)
  .skip))
  (.seq (.seq (io [ef 46 0 0 t5, el 47 false 1 t46, eb 48 .eql t47 (ci 4), em 49 t48, .og 50 49 true (.fa 5 5 t4), .og 51 49 true (.ld false 1 t50), .og 52 49 true (.fa 9 9 t3), .og 53 49 true (.ld false 1 t52), .og 54 49 true (.bin .geq t51 t53), .o 55 (.pick t49 t54 cf)])
  (.cond t55
  (.seq (io [em 6 (ci 133)])
  .ret)
  .skip))
  (.seq (.seq (io [ef 56 0 0 t5, el 57 false 1 t56, eb 58 .eql t57 (ci 5), em 59 t58, .og 60 59 true (.fa 12 12 t4), .og 61 59 true (.ld false 1 t60), .og 62 59 true (.fa 11 11 t3), .og 63 59 true (.ld false 1 t62), .og 64 59 true (.bin .geq t61 t63), .o 65 (.pick t59 t64 cf)])
  (.cond t65
  (.seq (io [em 6 (ci 133)])
  .ret)
  .skip))
  (.seq (.seq (io [ef 66 0 0 t5, el 67 false 1 t66, eb 68 .eql t67 (ci 6), em 69 t68, .og 70 69 true (.fa 13 13 t4), .og 71 69 true (.ld false 1 t70), .og 72 69 true (.fa 3 3 t5), .og 73 69 true (.ld false 1 t72), .og 74 69 true (.fa 7 7 t3), .og 75 69 true (.ld false 1 t74), .og 76 69 true (.call 194 [t71, t73, t75]), .og 77 69 true (.un .not t76), .og 78 69 true (.mv t77), .og 79 78 false (.fa 14 14 t4), .og 80 78 false (.ld false 1 t79), .og 81 78 false (.fa 3 3 t5), .og 82 78 false (.ld false 1 t81), .og 83 78 false (.fa 8 8 t3), .og 84 78 false (.ld false 1 t83), .og 85 78 false (.call 194 [t80, t82, t84]), .og 86 78 false (.un .not t85), .og 87 69 true (.pick t78 ct t86), .o 88 (.pick t69 t87 cf)])
  (.cond t88
  (.seq (io [em 6 (ci 133)])
  .ret)
  .skip))
  (.seq (io [em 6 (ci 0)])
  .ret))))))))
theorem hc_r13_standing : compF Tryz.prog 89 Tryz.f182 = some (ic_r13_standing, [.t 6]) := by kernel_rfl
theorem fn_r13_taken : Tryz.prog.funcs[r13_taken]? = some Tryz.f183 := Tryz.func183
theorem nt_r13_taken : Tryz.f183.ntmps = 92 := Tryz.ntmps183
def ic_r13_taken : IC := (.seq (io [.o 3 (.box t0), .o 4 (.box t1), .o 5 (.box t2), .o 6 (.alloc (.st (zc (zf (zc (zc (zc (zc (zc (zc (zc (zc (zc (zc (zc (zc (zc .nil))))))))))))))))), em 7 (.c (.slice none 0 0))])
  (.seq (.seq (io [ef 9 0 0 t5, el 10 false 1 t9])
  (.block 0 (.seq (io [eb 12 .eql t10 (ci 1), em 11 t12])
  (.cond t11
  (.seq (io [el 13 true 18 t3, el 14 true 15 t4, el 15 true 4 t5, ec 16 195 [t13, t14, t15], ex 17 0 t16, ex 18 1 t16, .n (.sto 15 t6 t17), em 7 t18])
  .ret)
  (.seq (io [eb 20 .eql t10 (ci 2), em 19 t20])
  (.cond t19
  (.seq (io [el 21 true 15 t4, el 22 true 4 t5, ec 23 196 [t21, t22], ex 24 0 t23, ex 25 1 t23, .n (.sto 15 t6 t24), em 7 t25])
  .ret)
  (.seq (io [eb 27 .eql t10 (ci 3), em 26 t27])
  (.cond t26
  (.seq (io [el 28 true 15 t4, el 29 true 4 t5, ec 30 197 [t28, t29], .n (.sto 15 t6 t30), em 7 (.c (.slice none 0 0))])
  .ret)
  (.seq (io [eb 32 .eql t10 (ci 4), em 31 t32])
  (.cond t31
  (.seq (io [ef 33 5 5 t4, el 34 false 1 t33, eb 35 .add t34 (ci 1), ef 36 5 5 t4, .n (.sto 1 t36 t35)])
  (.seq (io [ef 37 1 1 t5, el 38 false 1 t37, ef 39 2 2 t5, el 40 false 1 t39, eb 41 .add t38 t40, ef 42 6 6 t4, .n (.sto 1 t42 t41)])
  (.seq (io [ef 43 3 3 t5, el 44 false 1 t43, ef 45 7 7 t4, .n (.sto 1 t45 t44)])
  (.seq (io [ef 46 8 8 t4, .n (.sto 1 t46 (ci 0))])
  (.seq (io [ef 47 4 4 t4, el 48 false 1 t47, ef 49 2 2 t5, el 50 false 1 t49, eb 51 .add t48 t50, ef 52 4 4 t4, .n (.sto 1 t52 t51)])
  (.seq (io [ef 53 0 0 t4, .n (.sto 1 t53 (ci 4))])
  (.seq (io [el 54 true 15 t4, .n (.sto 15 t6 t54), em 7 (.c (.slice none 0 0))])
  .ret)))))))
  (.seq (io [eb 56 .eql t10 (ci 5), em 55 t56])
  (.cond t55
  (.seq (io [ef 57 12 12 t4, el 58 false 1 t57, eb 59 .add t58 (ci 1), ef 60 12 12 t4, .n (.sto 1 t60 t59)])
  (.seq (io [el 61 true 15 t4, ec 62 198 [t61, (ci 7)], .o 63 (.bsl 1 3 zi [(0, 0, 1, (ci 7))]), .n (.sto 15 t6 t62), em 7 t63])
  .ret))
  (.seq (io [eb 65 .eql t10 (ci 6), em 64 t65])
  (.cond t64
  (.seq (io [ef 66 13 13 t4, el 67 false 1 t66, ef 68 3 3 t5, el 69 false 1 t68, eb 70 .add t67 t69, ef 71 13 13 t4, .n (.sto 1 t71 t70)])
  (.seq (io [ef 72 14 14 t4, el 73 false 1 t72, ef 74 3 3 t5, el 75 false 1 t74, eb 76 .add t73 t75, ef 77 14 14 t4, .n (.sto 1 t77 t76)])
  (.seq (io [el 78 true 15 t4, .n (.sto 15 t6 t78), em 7 (.c (.slice none 0 0))])
  .ret)))
  .skip))))))))))))))
  (.seq (io [em 8 (.c (.slice none 0 0))])
  (.seq (.seq (io [el 79 true 15 t4, ec 80 169 [t79]])
  (.cond t80
  (.seq (io [el 81 true 15 t4, ec 82 199 [t81], .n (.sto 15 t4 t82)])
  (.ops [em 83 t8, .o 84 (.bsl 1 3 zi [(0, 0, 1, (ci 6))]), .o 85 (.app 1 8 3 t83 t84), em 8 t85]))
  .skip))
  (.seq (io [ef 86 0 0 t4, .n (.sto 1 t86 (ci 9))])
  (.seq (io [em 87 t8, .o 88 (.bsl 1 3 zi [(0, 0, 1, (ci 8))]), .o 89 (.app 1 8 3 t87 t88), em 8 t89])
  (.seq (io [el 90 true 15 t4, em 91 t8, .n (.sto 15 t6 t90), em 7 t91])
  .ret)))))))
theorem hc_r13_taken : compF Tryz.prog 92 Tryz.f183 = some (ic_r13_taken, [.c 6 true 15, .t 7]) := by kernel_rfl
theorem fn_r14_given : Tryz.prog.funcs[r14_given]? = some Tryz.f184 := Tryz.func184
theorem nt_r14_given : Tryz.f184.ntmps = 55 := Tryz.ntmps184
def ic_r14_given : IC := (.seq (io [.o 1 (.box t0), .o 2 (.alloc (.st (.cons (.st (zc (zc (zc (zc (zc (zc (zc (zc (zc (zc (zc (zc (zc (zc (zc (zc (zc (.cons zs .nil))))))))))))))))))) (.cons (.st (zc (.cons (.st (zc (zc (zc (zc (zc (zc .nil))))))) (.cons zs (.cons (.st (.cons (.arr 12 1 fun _ => zi) .nil)) (.cons (.st (zc (zf (zc (zc (zc (zc (zc (zc (zc (zc (zc (zc (zc (zc (zc .nil)))))))))))))))) (zc (zc (zc (.cons (.st (zc (zc (zc (zc (zc .nil)))))) (zf (zc (zc .nil))))))))))))) (.cons (.st (zc (zc (zc (zc (zc .nil)))))) (.cons zs (zc .nil)))))))])
  (.seq (io [ef 7 1 18 t1, el 8 true 46 t7, ec 9 149 [t8], .o 3 (.alloc (.st (zc (zc (zc .nil))))), .n (.sto 3 t3 t9)])
  (.seq (io [ef 10 1 18 t1, el 11 true 46 t10, ec 12 46 [t11, (ci 5)], em 4 t12])
  (.seq (io [em 13 t4, em 5 t13])
  (.seq (.seq (io [ef 14 1 1 t3, el 15 false 1 t14, em 16 t5, eb 17 .lss t15 t16])
  (.cond t17
  (.ops [ef 18 1 1 t3, el 19 false 1 t18, em 5 t19])
  .skip))
  (.seq (io [el 20 true 3 t3, ec 21 150 [t20], ef 22 1 18 t1, ef 23 10 44 t22, .n (.sto 1 t23 t21)])
  (.seq (io [em 6 (.c (.slice none 0 0))])
  (.seq (io [em 24 t6, em 25 t5, ec 26 90 [t24, (ci 5), (ci 2), t25], em 6 t26])
  (.seq (io [em 27 t6, em 28 t4, em 29 t5, eb 30 .sub t28 t29, ec 31 90 [t27, (ci 5), (ci 7), t30], em 6 t31])
  (.seq (io [em 32 t6, ef 33 2 2 t3, el 34 false 1 t33, ec 35 90 [t32, (ci 9), (ci 1), t34], em 6 t35])
  (.seq (io [em 36 t6, ef 37 1 1 t3, el 38 false 1 t37, em 39 t5, eb 40 .sub t38 t39, ec 41 90 [t36, (ci 9), (ci 2), t40], em 6 t41])
  (.seq (io [em 42 t6, ef 43 0 0 t3, el 44 false 1 t43, ec 45 90 [t42, (ci 9), (ci 3), t44], em 6 t45])
  (.seq (io [el 46 true 71 t1, em 47 t6, ec 48 89 [t46, t47], .n (.sto 71 t1 t48)])
  (.seq (.dops [el 49 true 71 t1, ec 50 147 [t49], ef 51 1 18 t1, ef 52 10 44 t51, el 53 false 1 t52, ec 54 148 [t50, (ci 4), t53], .n (.sto 71 t2 t54)])
  .ret))))))))))))))
theorem hc_r14_given : compF Tryz.prog 55 Tryz.f184 = some (ic_r14_given, [.c 2 true 71]) := by kernel_rfl
theorem fn_r12_good : Tryz.prog.funcs[r12_good]? = some Tryz.f185 := Tryz.func185
theorem nt_r12_good : Tryz.f185.ntmps = 12 := Tryz.ntmps185
def ic_r12_good : IC := (.seq (io [.o 1 (.box t0), em 2 cf])
  (.seq (io [el 6 true 18 t1, ec 7 17 [t6], em 5 t7, ex 8 0 t5, ex 9 1 t5, em 3 t8, em 4 t9])
  (.seq (io [em 10 t3, eb 11 .eql t10 (ci 0), em 2 t11])
  .ret)))
theorem hc_r12_good : compF Tryz.prog 12 Tryz.f185 = some (ic_r12_good, [.t 2]) := by kernel_rfl
theorem fn_r12_LateFee : Tryz.prog.funcs[r12_LateFee]? = some Tryz.f186 := Tryz.func186
theorem nt_r12_LateFee : Tryz.f186.ntmps = 34 := Tryz.ntmps186
def ic_r12_LateFee : IC := (.seq (io [.o 2 (.box t0), em 4 (ci 0)])
  (.seq (.seq (io [el 7 true 18 t2, ec 8 185 [t7], .o 9 (.un .not t8), em 10 t9, .og 11 10 false (.mv t1), .og 12 10 false (.bin .lss t11 (ci 0)), .o 13 (.pick t10 ct t12)])
  (.cond t13
  (.seq (io [em 4 (ci 0)])
  .ret)
  .skip))
  (.seq (io [em 15 t1, ef 16 4 4 t2, el 17 false 1 t16, ec 18 27 [t15, t17], em 14 t18, ex 19 0 t14, ex 20 1 t14, em 5 t19, em 6 t20])
  (.seq (.seq (io [em 21 t5, ef 22 5 5 t2, el 23 false 1 t22, eb 24 .lss t21 t23])
  (.cond t24
  (.seq (io [ef 25 5 5 t2, el 26 false 1 t25, em 4 t26])
  .ret)
  .skip))
  (.seq (.seq (io [em 27 t5, ef 28 6 6 t2, el 29 false 1 t28, eb 30 .gtr t27 t29])
  (.cond t30
  (.seq (io [ef 31 6 6 t2, el 32 false 1 t31, em 4 t32])
  .ret)
  .skip))
  (.seq (io [em 33 t5, em 4 t33])
  .ret))))))
theorem hc_r12_LateFee : compF Tryz.prog 34 Tryz.f186 = some (ic_r12_LateFee, [.t 4]) := by kernel_rfl
theorem fn_r12_room : Tryz.prog.funcs[r12_room]? = some Tryz.f187 := Tryz.func187
theorem nt_r12_room : Tryz.f187.ntmps = 14 := Tryz.ntmps187
def ic_r12_room : IC := (.seq (io [em 4 (ci 0)])
  (.seq (.seq (io [em 5 t1, eb 6 .leq t5 (ci 0)])
  (.cond t6
  (.seq (io [em 7 t0, em 4 t7])
  .ret)
  .skip))
  (.seq (.seq (io [em 8 t1, em 9 t0, eb 10 .geq t8 t9])
  (.cond t10
  (.seq (io [em 4 (ci 0)])
  .ret)
  .skip))
  (.seq (io [em 11 t0, em 12 t1, eb 13 .sub t11 t12, em 4 t13])
  .ret))))
theorem hc_r12_room : compF Tryz.prog 14 Tryz.f187 = some (ic_r12_room, [.t 4]) := by kernel_rfl
theorem fn_r9_Turn : Tryz.prog.funcs[r9_Turn]? = some Tryz.f188 := Tryz.func188
theorem nt_r9_Turn : Tryz.f188.ntmps = 29 := Tryz.ntmps188
def ic_r9_Turn : IC := (.seq (io [em 4 (ci 0)])
  (.seq (io [em 5 (ci 0)])
  (.seq (.seq (io [em 7 t0])
  (.block 0 (.seq (io [eb 9 .eql t7 (ci 0), em 8 t9])
  (.cond t8
  (.ops [em 5 (ci 321)])
  (.seq (io [eb 11 .eql t7 (ci 1), em 10 t11])
  (.cond t10
  (.ops [em 5 (ci 312)])
  (.seq (io [eb 13 .eql t7 (ci 2), em 12 t13])
  (.cond t12
  (.ops [em 5 (ci 231)])
  (.seq (io [eb 15 .eql t7 (ci 3), em 14 t15])
  (.cond t14
  (.ops [em 5 (ci 213)])
  (.seq (io [eb 17 .eql t7 (ci 4), em 16 t17])
  (.cond t16
  (.ops [em 5 (ci 132)])
  (.seq (io [eb 19 .eql t7 (ci 5), em 18 t19])
  (.cond t18
  (.ops [em 5 (ci 123)])
  (.seq (io [em 4 (ci (-1))])
  .ret)))))))))))))))
  (.seq (.seq (io [em 20 t1, em 6 t20])
  (.block 1 (.loop (.seq (.seq (io [em 21 t6, eb 22 .lss t21 (ci 2)])
  (.cond t22
  .skip
  (.exit 1)))
  (.seq (.block 2 (.ops [em 25 t5, eb 26 .quo t25 (ci 10), em 5 t26]))
  (.ops [em 23 t6, eb 24 .add t23 (ci 1), em 6 t24]))))))
  (.seq (io [em 27 t5, eb 28 .rem t27 (ci 10), em 4 t28])
  .ret)))))
theorem hc_r9_Turn : compF Tryz.prog 29 Tryz.f188 = some (ic_r9_Turn, [.t 4]) := by kernel_rfl
theorem fn_r9_part : Tryz.prog.funcs[r9_part]? = some Tryz.f189 := Tryz.func189
theorem nt_r9_part : Tryz.f189.ntmps = 46 := Tryz.ntmps189
def ic_r9_part : IC := (.seq (io [.o 5 (.box t1), em 8 (ci 0)])
  (.seq (io [em 12 t2, em 9 t12])
  (.seq (.seq (io [em 10 (ci 0)])
  (.block 0 (.loop (.seq (.seq (io [em 13 t10, em 14 t3, eb 15 .lss t13 t14])
  (.cond t15
  .skip
  (.exit 0)))
  (.seq (.block 1 (.seq (.dops [el 18 true 3 t5, em 19 t0, em 20 t10, ec 21 188 [t19, t20], ec 22 200 [t18, t21], em 11 t22])
  (.seq (.seq (io [em 23 t11, em 24 t9, eb 25 .geq t23 t24])
  (.cond t25
  (.seq (io [em 8 (ci 0)])
  .ret)
  .skip))
  (.ops [em 26 t9, em 27 t11, eb 28 .sub t26 t27, em 9 t28]))))
  (.ops [em 16 t10, eb 17 .add t16 (ci 1), em 10 t17]))))))
  (.seq (.seq (.dops [em 29 t3, eb 30 .eql t29 (ci 3), em 31 t30, .og 32 31 false (.mv t9), .og 33 31 false (.ld true 3 t5), .og 34 31 false (.mv t0), .og 35 31 false (.mv t3), .og 36 31 false (.call 188 [t34, t35]), .og 37 31 false (.call 200 [t33, t36]), .og 38 31 false (.bin .lss t32 t37), .o 39 (.pick t31 ct t38)])
  (.cond t39
  (.seq (io [em 40 t9, em 8 t40])
  .ret)
  .skip))
  (.seq (.dops [el 41 true 3 t5, em 42 t0, em 43 t3, ec 44 188 [t42, t43], ec 45 200 [t41, t44], em 8 t45])
  .ret)))))
theorem hc_r9_part : compF Tryz.prog 46 Tryz.f189 = some (ic_r9_part, [.t 8]) := by kernel_rfl
theorem fn_r9_with : Tryz.prog.funcs[r9_with]? = some Tryz.f190 := Tryz.func190
theorem nt_r9_with : Tryz.f190.ntmps = 24 := Tryz.ntmps190
def ic_r9_with : IC := (.seq (io [em 8 (.c (.slice none 0 0))])
  (.seq (.seq (io [em 10 t2, eb 11 .leq t10 (ci 0)])
  (.cond t11
  (.seq (io [em 12 t0, em 8 t12])
  .ret)
  .skip))
  (.seq (io [em 13 t1, em 14 t2, .o 15 (.build (.st (zc (zc (zc .nil)))) [(0, 0, 1, (ci 0)), (1, 1, 1, t13), (2, 2, 1, t14)]), .o 9 (.alloc (.st (zc (zc (zc .nil))))), .n (.sto 3 t9 t15)])
  (.seq (.seq (io [em 16 t3])
  (.cond t16
  (.ops [em 17 t1, em 18 t2, .o 19 (.build (.st (zc (zc (zc .nil)))) [(0, 0, 1, t17), (1, 1, 1, (ci 0)), (2, 2, 1, t18)]), .n (.sto 3 t9 t19)])
  .skip))
  (.seq (io [em 20 t0, el 21 true 3 t9, .o 22 (.bsl 3 183 (.st (zc (zc (zc .nil)))) [(0, 0, 3, t21)]), .o 23 (.app 3 24 183 t20 t22), em 8 t23])
  .ret)))))
theorem hc_r9_with : compF Tryz.prog 24 Tryz.f190 = some (ic_r9_with, [.t 8]) := by kernel_rfl
theorem fn_r2_divides : Tryz.prog.funcs[r2_divides]? = some Tryz.f191 := Tryz.func191
theorem nt_r2_divides : Tryz.f191.ntmps = 16 := Tryz.ntmps191
def ic_r2_divides : IC := (.seq (io [em 2 cf])
  (.seq (io [em 3 t0, eb 4 .rem t3 (ci 4), eb 5 .eql t4 (ci 0), em 6 t5, .og 7 6 true (.mv t0), .og 8 6 true (.bin .rem t7 (ci 100)), .og 9 6 true (.bin .neq t8 (ci 0)), .og 10 6 true (.mv t9), .og 11 10 false (.mv t0), .og 12 10 false (.bin .rem t11 (ci 400)), .og 13 10 false (.bin .eql t12 (ci 0)), .og 14 6 true (.pick t10 ct t13), .o 15 (.pick t6 t14 cf), em 2 t15])
  .ret))
theorem hc_r2_divides : compF Tryz.prog 16 Tryz.f191 = some (ic_r2_divides, [.t 2]) := by kernel_rfl
theorem fn_r2_MonthLen : Tryz.prog.funcs[r2_MonthLen]? = some Tryz.f192 := Tryz.func192
theorem nt_r2_MonthLen : Tryz.f192.ntmps = 22 := Tryz.ntmps192
def ic_r2_MonthLen : IC := (.seq (io [em 4 (ci 0)])
  (.seq (.seq (io [em 5 t0, eb 6 .lss t5 (ci 1), em 7 t6, .og 8 7 false (.mv t0), .og 9 7 false (.bin .gtr t8 (ci 9999)), .o 10 (.pick t7 ct t9), em 11 t10, .og 12 11 false (.mv t1), .og 13 11 false (.bin .lss t12 (ci 1)), .o 14 (.pick t11 ct t13), em 15 t14, .og 16 15 false (.mv t1), .og 17 15 false (.bin .gtr t16 (ci 12)), .o 18 (.pick t15 ct t17)])
  (.cond t18
  (.seq (io [em 4 (ci 0)])
  .ret)
  .skip))
  (.seq (io [em 19 t0, em 20 t1, ec 21 178 [t19, t20], em 4 t21])
  .ret)))
theorem hc_r2_MonthLen : compF Tryz.prog 22 Tryz.f192 = some (ic_r2_MonthLen, [.t 4]) := by kernel_rfl
theorem fn_r2_Business : Tryz.prog.funcs[r2_Business]? = some Tryz.f193 := Tryz.func193
theorem nt_r2_Business : Tryz.f193.ntmps = 31 := Tryz.ntmps193
def ic_r2_Business : IC := (.seq (io [em 4 cf])
  (.seq (io [em 9 t0, ec 10 201 [t9], em 8 t10, ex 11 0 t8, ex 12 1 t8, em 5 t11, em 6 t12])
  (.seq (.seq (io [em 13 t6, .o 14 (.un .not t13), em 15 t14, .og 16 15 false (.mv t5), .og 17 15 false (.bin .gtr t16 (ci 5)), .o 18 (.pick t15 ct t17)])
  (.cond t18
  (.seq (io [em 4 cf])
  .ret)
  .skip))
  (.seq (.seq (io [em 7 (ci 0)])
  (.block 0 (.loop (.seq (.seq (io [em 19 t7, em 20 t1, .o 21 (.len t20), eb 22 .lss t19 t21])
  (.cond t22
  .skip
  (.exit 0)))
  (.seq (.block 1 (.seq (io [em 25 t1, em 26 t7, es 27 1 t25 t26, el 28 false 1 t27, em 29 t0, eb 30 .eql t28 t29])
  (.cond t30
  (.seq (io [em 4 cf])
  .ret)
  .skip)))
  (.ops [em 23 t7, eb 24 .add t23 (ci 1), em 7 t24]))))))
  (.seq (io [em 4 ct])
  .ret)))))
theorem hc_r2_Business : compF Tryz.prog 31 Tryz.f193 = some (ic_r2_Business, [.t 4]) := by kernel_rfl
theorem fn_r13_fits : Tryz.prog.funcs[r13_fits]? = some Tryz.f194 := Tryz.func194
theorem nt_r13_fits : Tryz.f194.ntmps = 17 := Tryz.ntmps194
def ic_r13_fits : IC := (.seq (io [em 6 cf])
  (.seq (io [em 7 t0, em 8 t2, eb 9 .leq t7 t8, em 10 t9, .og 11 10 true (.mv t1), .og 12 10 true (.mv t2), .og 13 10 true (.mv t0), .og 14 10 true (.bin .sub t12 t13), .og 15 10 true (.bin .leq t11 t14), .o 16 (.pick t10 t15 cf), em 6 t16])
  .ret))
theorem hc_r13_fits : compF Tryz.prog 17 Tryz.f194 = some (ic_r13_fits, [.t 6]) := by kernel_rfl
theorem fn_r13_age : Tryz.prog.funcs[r13_age]? = some Tryz.f195 := Tryz.func195
theorem nt_r13_age : Tryz.f195.ntmps = 95 := Tryz.ntmps195
def ic_r13_age : IC := (.seq (io [.o 3 (.box t0), .o 4 (.box t1), .o 5 (.box t2), .o 6 (.alloc (.st (zc (zf (zc (zc (zc (zc (zc (zc (zc (zc (zc (zc (zc (zc (zc .nil))))))))))))))))), em 7 (.c (.slice none 0 0))])
  (.seq (io [em 8 (.c (.slice none 0 0))])
  (.seq (.seq (io [ef 11 0 0 t4, el 12 false 1 t11, eb 13 .eql t12 (ci 4), em 14 t13, .og 15 14 true (.fa 1 1 t5), .og 16 14 true (.ld false 1 t15), .og 17 14 true (.fa 6 6 t4), .og 18 14 true (.ld false 1 t17), .og 19 14 true (.bin .gtr t16 t18), .o 20 (.pick t14 t19 cf)])
  (.cond t20
  (.seq (io [ef 21 10 10 t4, el 22 false 1 t21, eb 23 .add t22 (ci 1), ef 24 10 10 t4, .n (.sto 1 t24 t23)])
  (.seq (io [el 25 true 15 t4, ec 26 202 [t25], .n (.sto 15 t4 t26)])
  (.ops [em 27 t8, .o 28 (.bsl 1 3 zi [(0, 0, 1, (ci 1))]), .o 29 (.app 1 8 3 t27 t28), em 8 t29])))
  .skip))
  (.seq (.seq (io [el 30 true 15 t4, ec 31 169 [t30], em 32 t31, .og 33 32 true (.fa 2 2 t5), .og 34 32 true (.ld false 1 t33), .og 35 32 true (.bin .eql t34 (ci 0)), .o 36 (.pick t32 t35 cf)])
  (.cond t36
  (.seq (io [em 37 t8, .o 38 (.bsl 1 3 zi [(0, 0, 1, (ci 6))]), .o 39 (.app 1 8 3 t37 t38), em 8 t39])
  (.seq (io [el 40 true 15 t4, ec 41 199 [t40], em 42 t8, .n (.sto 15 t6 t41), em 7 t42])
  .ret))
  .skip))
  (.seq (.seq (io [el 43 true 15 t4, ec 44 169 [t43], .o 45 (.un .not t44)])
  (.cond t45
  (.seq (io [el 47 true 18 t3, el 48 true 15 t4, el 49 true 4 t5, ec 50 203 [t47, t48, t49], em 46 t50, ex 51 0 t46, ex 52 1 t46, .o 9 (.alloc (.st (zc (zf (zc (zc (zc (zc (zc (zc (zc (zc (zc (zc (zc (zc (zc .nil))))))))))))))))), .n (.sto 15 t9 t51), em 10 t52])
  (.seq (io [el 53 true 15 t9, .n (.sto 15 t4 t53)])
  (.ops [em 54 t8, em 55 t10, .o 56 (.app 1 8 3 t54 t55), em 8 t56])))
  .skip))
  (.seq (.seq (io [el 57 true 15 t4, ec 58 169 [t57], em 59 t58, .og 60 59 true (.fa 1 1 t4), .og 61 59 true (.ld false 1 t60), .og 62 59 true (.un .not t61), .o 63 (.pick t59 t62 cf), em 64 t63, .og 65 64 true (.fa 2 2 t5), .og 66 64 true (.ld false 1 t65), .og 67 64 true (.fa 2 2 t3), .og 68 64 true (.ld false 1 t67), .og 69 64 true (.bin .geq t66 t68), .o 70 (.pick t64 t69 cf)])
  (.cond t70
  (.seq (io [ef 71 1 1 t4, .n (.sto 1 t71 ct)])
  (.seq (.seq (io [ef 72 0 0 t4, el 73 false 1 t72, eb 74 .eql t73 (ci 3)])
  (.cond t74
  (.ops [ef 75 0 0 t4, .n (.sto 1 t75 (ci 5))])
  .skip))
  (.ops [em 76 t8, .o 77 (.bsl 1 3 zi [(0, 0, 1, (ci 3))]), .o 78 (.app 1 8 3 t76 t77), em 8 t78])))
  .skip))
  (.seq (.seq (io [el 79 true 15 t4, ec 80 169 [t79], em 81 t80, .og 82 81 true (.fa 1 1 t5), .og 83 81 true (.ld false 1 t82), .og 84 81 true (.fa 4 4 t4), .og 85 81 true (.ld false 1 t84), .og 86 81 true (.bin .geq t83 t85), .o 87 (.pick t81 t86 cf)])
  (.cond t87
  (.seq (io [el 88 true 15 t4, ec 89 198 [t88, (ci 8)], .n (.sto 15 t4 t89)])
  (.ops [em 90 t8, .o 91 (.bsl 1 3 zi [(0, 0, 1, (ci 4))]), .o 92 (.app 1 8 3 t90 t91), em 8 t92]))
  .skip))
  (.seq (io [el 93 true 15 t4, em 94 t8, .n (.sto 15 t6 t93), em 7 t94])
  .ret))))))))
theorem hc_r13_age : compF Tryz.prog 95 Tryz.f195 = some (ic_r13_age, [.c 6 true 15, .t 7]) := by kernel_rfl
theorem fn_r13_paid : Tryz.prog.funcs[r13_paid]? = some Tryz.f196 := Tryz.func196
theorem nt_r13_paid : Tryz.f196.ntmps = 57 := Tryz.ntmps196
def ic_r13_paid : IC := (.seq (io [.o 2 (.box t0), .o 3 (.box t1), .o 4 (.alloc (.st (zc (zf (zc (zc (zc (zc (zc (zc (zc (zc (zc (zc (zc (zc (zc .nil))))))))))))))))), em 5 (.c (.slice none 0 0))])
  (.seq (io [em 6 (.c (.slice none 0 0))])
  (.seq (.seq (io [ef 7 0 0 t2, el 8 false 1 t7, eb 9 .eql t8 (ci 4)])
  (.cond t9
  (.seq (io [ef 10 3 3 t3, el 11 false 1 t10, ef 12 7 7 t2, el 13 false 1 t12, ef 14 8 8 t2, el 15 false 1 t14, eb 16 .sub t13 t15, eb 17 .geq t11 t16])
  (.cond t17
  (.seq (io [ef 18 9 9 t2, el 19 false 1 t18, eb 20 .add t19 (ci 1), ef 21 9 9 t2, .n (.sto 1 t21 t20)])
  (.seq (io [el 22 true 15 t2, ec 23 202 [t22], .n (.sto 15 t2 t23)])
  (.ops [em 24 t6, .o 25 (.bsl 1 3 zi [(0, 0, 1, (ci 5))]), .o 26 (.app 1 8 3 t24 t25), em 6 t26])))
  (.ops [ef 27 8 8 t2, el 28 false 1 t27, ef 29 3 3 t3, el 30 false 1 t29, eb 31 .add t28 t30, ef 32 8 8 t2, .n (.sto 1 t32 t31)])))
  .skip))
  (.seq (.seq (io [el 33 true 15 t2, ec 34 169 [t33], em 35 t34, .og 36 35 true (.fa 2 2 t3), .og 37 35 true (.ld false 1 t36), .og 38 35 true (.bin .eql t37 (ci 0)), .o 39 (.pick t35 t38 cf)])
  (.cond t39
  (.seq (io [em 40 t6, .o 41 (.bsl 1 3 zi [(0, 0, 1, (ci 6))]), .o 42 (.app 1 8 3 t40 t41), em 6 t42])
  (.seq (io [el 43 true 15 t2, ec 44 199 [t43], em 45 t6, .n (.sto 15 t4 t44), em 5 t45])
  .ret))
  .skip))
  (.seq (.seq (io [ef 46 0 0 t2, el 47 false 1 t46, eb 48 .eql t47 (ci 2), em 49 t48, .og 50 49 true (.fa 2 2 t3), .og 51 49 true (.ld false 1 t50), .og 52 49 true (.bin .eql t51 (ci 0)), .o 53 (.pick t49 t52 cf)])
  (.cond t53
  (.ops [ef 54 0 0 t2, .n (.sto 1 t54 (ci 1))])
  .skip))
  (.seq (io [el 55 true 15 t2, em 56 t6, .n (.sto 15 t4 t55), em 5 t56])
  .ret))))))
theorem hc_r13_paid : compF Tryz.prog 57 Tryz.f196 = some (ic_r13_paid, [.c 4 true 15, .t 5]) := by kernel_rfl
theorem fn_r13_returned : Tryz.prog.funcs[r13_returned]? = some Tryz.f197 := Tryz.func197
theorem nt_r13_returned : Tryz.f197.ntmps = 21 := Tryz.ntmps197
def ic_r13_returned : IC := (.seq (io [.o 2 (.box t0), .o 3 (.box t1), .o 4 (.alloc (.st (zc (zf (zc (zc (zc (zc (zc (zc (zc (zc (zc (zc (zc (zc (zc .nil)))))))))))))))))])
  (.seq (.seq (io [ef 5 0 0 t2, el 6 false 1 t5, eb 7 .eql t6 (ci 4)])
  (.cond t7
  (.seq (io [ef 8 3 3 t3, el 9 false 1 t8, ef 10 8 8 t2, el 11 false 1 t10, eb 12 .geq t9 t11])
  (.cond t12
  (.ops [ef 13 8 8 t2, .n (.sto 1 t13 (ci 0))])
  (.ops [ef 14 8 8 t2, el 15 false 1 t14, ef 16 3 3 t3, el 17 false 1 t16, eb 18 .sub t15 t17, ef 19 8 8 t2, .n (.sto 1 t19 t18)])))
  .skip))
  (.seq (io [el 20 true 15 t2, .n (.sto 15 t4 t20)])
  .ret)))
theorem hc_r13_returned : compF Tryz.prog 21 Tryz.f197 = some (ic_r13_returned, [.c 4 true 15]) := by kernel_rfl
theorem fn_r13_ended : Tryz.prog.funcs[r13_ended]? = some Tryz.f198 := Tryz.func198
theorem nt_r13_ended : Tryz.f198.ntmps = 15 := Tryz.ntmps198
def ic_r13_ended : IC := (.seq (io [.o 2 (.box t0), .o 4 (.alloc (.st (zc (zf (zc (zc (zc (zc (zc (zc (zc (zc (zc (zc (zc (zc (zc .nil)))))))))))))))))])
  (.seq (io [el 5 true 15 t2, ec 6 204 [t5], .n (.sto 15 t2 t6)])
  (.seq (io [ef 7 1 1 t2, .n (.sto 1 t7 cf)])
  (.seq (io [ef 8 3 3 t2, .n (.sto 1 t8 (ci 0))])
  (.seq (io [ef 9 4 4 t2, .n (.sto 1 t9 (ci 0))])
  (.seq (io [ef 10 5 5 t2, .n (.sto 1 t10 (ci 0))])
  (.seq (io [ef 11 13 13 t2, .n (.sto 1 t11 (ci 0))])
  (.seq (io [em 12 t1, ef 13 0 0 t2, .n (.sto 1 t13 t12)])
  (.seq (io [el 14 true 15 t2, .n (.sto 15 t4 t14)])
  .ret)))))))))
theorem hc_r13_ended : compF Tryz.prog 15 Tryz.f198 = some (ic_r13_ended, [.c 4 true 15]) := by kernel_rfl
theorem fn_r13_cure : Tryz.prog.funcs[r13_cure]? = some Tryz.f199 := Tryz.func199
theorem nt_r13_cure : Tryz.f199.ntmps = 9 := Tryz.ntmps199
def ic_r13_cure : IC := (.seq (io [.o 1 (.box t0), .o 2 (.alloc (.st (zc (zf (zc (zc (zc (zc (zc (zc (zc (zc (zc (zc (zc (zc (zc .nil)))))))))))))))))])
  (.seq (io [ef 3 11 11 t1, el 4 false 1 t3, eb 5 .add t4 (ci 1), ef 6 11 11 t1, .n (.sto 1 t6 t5)])
  (.seq (io [el 7 true 15 t1, ec 8 198 [t7, (ci 6)], .n (.sto 15 t2 t8)])
  .ret)))
theorem hc_r13_cure : compF Tryz.prog 9 Tryz.f199 = some (ic_r13_cure, [.c 2 true 15]) := by kernel_rfl
theorem fn_r9_wants : Tryz.prog.funcs[r9_wants]? = some Tryz.f200 := Tryz.func200
theorem nt_r9_wants : Tryz.f200.ntmps = 15 := Tryz.ntmps200
def ic_r9_wants : IC := (.seq (io [.o 2 (.box t0), em 4 (ci 0)])
  (.seq (.seq (io [em 5 t1, eb 6 .eql t5 (ci 3)])
  (.cond t6
  (.seq (io [ef 7 0 0 t2, el 8 false 1 t7, em 4 t8])
  .ret)
  .skip))
  (.seq (.seq (io [em 9 t1, eb 10 .eql t9 (ci 2)])
  (.cond t10
  (.seq (io [ef 11 1 1 t2, el 12 false 1 t11, em 4 t12])
  .ret)
  .skip))
  (.seq (io [ef 13 2 2 t2, el 14 false 1 t13, em 4 t14])
  .ret))))
theorem hc_r9_wants : compF Tryz.prog 15 Tryz.f200 = some (ic_r9_wants, [.t 4]) := by kernel_rfl
theorem fn_r2_Weekday : Tryz.prog.funcs[r2_Weekday]? = some Tryz.f201 := Tryz.func201
theorem nt_r2_Weekday : Tryz.f201.ntmps = 11 := Tryz.ntmps201
def ic_r2_Weekday : IC := (.seq (io [em 2 (ci 0), em 3 cf])
  (.seq (.seq (io [em 4 t0, ec 5 176 [t4], .o 6 (.un .not t5)])
  (.cond t6
  (.seq (io [em 2 (ci 0), em 3 cf])
  .ret)
  .skip))
  (.seq (io [em 7 t0, eb 8 .sub t7 (ci 1), eb 9 .rem t8 (ci 7), eb 10 .add t9 (ci 1), em 2 t10, em 3 ct])
  .ret)))
theorem hc_r2_Weekday : compF Tryz.prog 11 Tryz.f201 = some (ic_r2_Weekday, [.t 2, .t 3]) := by kernel_rfl
theorem fn_r13_back : Tryz.prog.funcs[r13_back]? = some Tryz.f202 := Tryz.func202
theorem nt_r13_back : Tryz.f202.ntmps = 10 := Tryz.ntmps202
def ic_r13_back : IC := (.seq (io [.o 1 (.box t0), .o 2 (.alloc (.st (zc (zf (zc (zc (zc (zc (zc (zc (zc (zc (zc (zc (zc (zc (zc .nil)))))))))))))))))])
  (.seq (io [el 3 true 15 t1, ec 4 204 [t3], .n (.sto 15 t1 t4)])
  (.seq (io [ef 5 0 0 t1, .n (.sto 1 t5 (ci 3))])
  (.seq (.seq (io [ef 6 1 1 t1, el 7 false 1 t6])
  (.cond t7
  (.ops [ef 8 0 0 t1, .n (.sto 1 t8 (ci 5))])
  .skip))
  (.seq (io [el 9 true 15 t1, .n (.sto 15 t2 t9)])
  .ret)))))
theorem hc_r13_back : compF Tryz.prog 10 Tryz.f202 = some (ic_r13_back, [.c 2 true 15]) := by kernel_rfl
theorem fn_r13_quiet : Tryz.prog.funcs[r13_quiet]? = some Tryz.f203 := Tryz.func203
theorem nt_r13_quiet : Tryz.f203.ntmps = 41 := Tryz.ntmps203
def ic_r13_quiet : IC := (.seq (io [.o 3 (.box t0), .o 4 (.box t1), .o 5 (.box t2), .o 6 (.alloc (.st (zc (zf (zc (zc (zc (zc (zc (zc (zc (zc (zc (zc (zc (zc (zc .nil))))))))))))))))), em 7 (.c (.slice none 0 0))])
  (.seq (.seq (io [ef 8 2 2 t5, el 9 false 1 t8, eb 10 .eql t9 (ci 0)])
  (.cond t10
  (.seq (.seq (io [ef 11 0 0 t4, el 12 false 1 t11, eb 13 .eql t12 (ci 2)])
  (.cond t13
  (.ops [ef 14 0 0 t4, .n (.sto 1 t14 (ci 1))])
  .skip))
  (.seq (io [el 15 true 15 t4, .n (.sto 15 t6 t15), em 7 (.c (.slice none 0 0))])
  .ret))
  .skip))
  (.seq (.seq (io [ef 16 2 2 t5, el 17 false 1 t16, ef 18 1 1 t3, el 19 false 1 t18, eb 20 .leq t17 t19])
  (.cond t20
  (.seq (io [ef 21 0 0 t4, .n (.sto 1 t21 (ci 2))])
  (.seq (io [el 22 true 15 t4, .n (.sto 15 t6 t22), em 7 (.c (.slice none 0 0))])
  .ret))
  .skip))
  (.seq (io [ef 23 2 2 t4, el 24 false 1 t23, eb 25 .add t24 (ci 1), ef 26 2 2 t4, .n (.sto 1 t26 t25)])
  (.seq (io [ef 27 1 1 t5, el 28 false 1 t27, ef 29 3 3 t4, .n (.sto 1 t29 t28)])
  (.seq (io [ef 30 1 1 t5, el 31 false 1 t30, ef 32 3 3 t3, el 33 false 1 t32, eb 34 .add t31 t33, ef 35 4 4 t4, .n (.sto 1 t35 t34)])
  (.seq (io [ef 36 5 5 t4, .n (.sto 1 t36 (ci 0))])
  (.seq (io [ef 37 13 13 t4, .n (.sto 1 t37 (ci 0))])
  (.seq (io [ef 38 0 0 t4, .n (.sto 1 t38 (ci 3))])
  (.seq (io [el 39 true 15 t4, .o 40 (.bsl 1 3 zi [(0, 0, 1, (ci 2))]), .n (.sto 15 t6 t39), em 7 t40])
  .ret))))))))))
theorem hc_r13_quiet : compF Tryz.prog 41 Tryz.f203 = some (ic_r13_quiet, [.c 6 true 15, .t 7]) := by kernel_rfl
theorem fn_r13_cleared : Tryz.prog.funcs[r13_cleared]? = some Tryz.f204 := Tryz.func204
theorem nt_r13_cleared : Tryz.f204.ntmps = 7 := Tryz.ntmps204
def ic_r13_cleared : IC := (.seq (io [.o 1 (.box t0), .o 2 (.alloc (.st (zc (zf (zc (zc (zc (zc (zc (zc (zc (zc (zc (zc (zc (zc (zc .nil)))))))))))))))))])
  (.seq (io [ef 3 6 6 t1, .n (.sto 1 t3 (ci 0))])
  (.seq (io [ef 4 7 7 t1, .n (.sto 1 t4 (ci 0))])
  (.seq (io [ef 5 8 8 t1, .n (.sto 1 t5 (ci 0))])
  (.seq (io [el 6 true 15 t1, .n (.sto 15 t2 t6)])
  .ret)))))
theorem hc_r13_cleared : compF Tryz.prog 7 Tryz.f204 = some (ic_r13_cleared, [.c 2 true 15]) := by kernel_rfl
end Go.Proofs.YtjkmmcbfcglkdaaGreatDoor
