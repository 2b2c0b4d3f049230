/- The given functions as the walk reads them, continued. No condition. -/
import Derived.Test.YtjkmmcbfcglkdaaGreatDoorZIc2
set_option linter.all false
namespace Go.Proofs.YtjkmmcbfcglkdaaGreatDoor
open Go Ar
set_option linter.unusedVariables false
set_option maxRecDepth 100000

theorem fn_r14_parted : Tryz.prog.funcs[r14_parted]? = some Tryz.f143 := Tryz.func143
theorem nt_r14_parted : Tryz.f143.ntmps = 34 := Tryz.ntmps143
def ic_r14_parted : IC := (.seq (.ops [.o 3 (.box t0), .o 4 (.box t1), .o 6 (.alloc (.st (zc (zc (zc (zc (zc .nil))))))), .o 7 (.mv (ci 0))])
  (.seq (.seq (.ops [.o 8 (.fa 4 20 t4), .o 9 (.fa 0 0 t8), .o 10 (.ld false 1 t9)])
  (.block 0 (.seq (.ops [.o 12 (.bin .eql t10 (ci 9)), .o 11 (.mv t12)])
  (.cond t11
  (.seq (.ops [.o 13 (.mv t2), .o 14 (.build (.st (zc (zc (zc (zc (zc .nil)))))) [(3, 3, 1, t13)]), .n (.sto 5 t6 t14), .o 7 (.mv (ci 0))])
  .ret)
  (.seq (.ops [.o 16 (.bin .eql t10 (ci 8)), .o 15 (.mv t16)])
  (.cond t15
  (.seq (.dops [.o 17 (.fa 10 44 t4), .o 18 (.ld false 1 t17), .o 19 (.ld true 46 t4), .o 20 (.call 46 [t19, (ci 10)]), .o 21 (.bin .sub t18 t20), .o 22 (.mv t2), .o 23 (.call 173 [t21, t22]), .o 24 (.ext 0 t23), .o 25 (.ext 1 t23), .n (.sto 5 t6 t24), .o 7 (.mv t25)])
  .ret)
  .skip))))))
  (.seq (.dops [.o 26 (.fa 12 12 t3), .o 27 (.ld false 1 t26), .o 28 (.ld true 46 t4), .o 29 (.call 149 [t28]), .o 30 (.mv t2), .o 31 (.call 174 [t27, t29, t30]), .o 32 (.ext 0 t31), .o 33 (.ext 1 t31), .n (.sto 5 t6 t32), .o 7 (.mv t33)])
  .ret)))
theorem hc_r14_parted : compF Tryz.prog 34 Tryz.f143 = some (ic_r14_parted, [.c 6 true 5, .t 7]) := by kernel_rfl

theorem fn_r9_Entries : Tryz.prog.funcs[r9_Entries]? = some Tryz.f144 := Tryz.func144
theorem nt_r9_Entries : Tryz.f144.ntmps = 5 := Tryz.ntmps144
def ic_r9_Entries : IC := (.seq (.ops [.o 1 (.box t0), .o 2 (.mv (.c (.slice none 0 0)))])
  (.seq (.ops [.o 3 (.ld true 5 t1), .o 4 (.call 175 [t3, (.c (.bool false))]), .o 2 (.mv t4)])
  .ret))
theorem hc_r9_Entries : compF Tryz.prog 5 Tryz.f144 = some (ic_r9_Entries, [.t 2]) := by kernel_rfl

theorem fn_r14_settled : Tryz.prog.funcs[r14_settled]? = some Tryz.f145 := Tryz.func145
theorem nt_r14_settled : Tryz.f145.ntmps = 29 := Tryz.ntmps145
def ic_r14_settled : IC := (.seq (.ops [.o 1 (.box t0), .o 2 (.alloc (.st (.cons (.st (zc (zc (zc (zc (zc (zc (zc (zc (zc (zc (zc (zc (zc (zc (zc (zc (zc (.cons zs .nil))))))))))))))))))) (.cons (.st (zc (.cons (.st (zc (zc (zc (zc (zc (zc .nil))))))) (.cons zs (.cons (.st (.cons (.arr 12 1 fun _ => zi) .nil)) (.cons (.st (zc (zf (zc (zc (zc (zc (zc (zc (zc (zc (zc (zc (zc (zc (zc .nil)))))))))))))))) (zc (zc (zc (.cons (.st (zc (zc (zc (zc (zc .nil)))))) (zf (zc (zc .nil))))))))))))) (.cons (.st (zc (zc (zc (zc (zc .nil)))))) (.cons zs (zc .nil)))))))])
  (.seq (.ops [.o 4 (.fa 1 18 t1), .o 5 (.ld true 46 t4), .o 6 (.call 149 [t5]), .o 3 (.alloc (.st (zc (zc (zc .nil))))), .n (.sto 3 t3 t6)])
  (.seq (.seq (.ops [.o 7 (.fa 4 70 t1), .o 8 (.ld false 1 t7), .o 9 (.bin .eql t8 (ci 0)), .o 10 (.mv t9), .og 11 10 true (.fa 0 0 t3), .og 12 10 true (.ld false 1 t11), .og 13 10 true (.bin .eql t12 (ci 0)), .o 14 (.pick t10 t13 (.c (.bool false))), .o 15 (.mv t14), .og 16 15 true (.fa 1 1 t3), .og 17 15 true (.ld false 1 t16), .og 18 15 true (.bin .eql t17 (ci 0)), .o 19 (.pick t15 t18 (.c (.bool false))), .o 20 (.mv t19), .og 21 20 true (.fa 2 2 t3), .og 22 20 true (.ld false 1 t21), .og 23 20 true (.bin .eql t22 (ci 0)), .o 24 (.pick t20 t23 (.c (.bool false)))])
  (.cond t24
  (.seq (.ops [.o 25 (.ld true 71 t1), .o 26 (.build (.st (zc (zc (zc (zc .nil))))) [(0, 0, 1, (ci 7))]), .o 27 (.call 141 [t25, t26]), .n (.sto 71 t2 t27)])
  .ret)
  .skip))
  (.seq (.ops [.o 28 (.ld true 71 t1), .n (.sto 71 t2 t28)])
  .ret))))
theorem hc_r14_settled : compF Tryz.prog 29 Tryz.f145 = some (ic_r14_settled, [.c 2 true 71]) := by kernel_rfl

theorem fn_r9_Undo : Tryz.prog.funcs[r9_Undo]? = some Tryz.f146 := Tryz.func146
theorem nt_r9_Undo : Tryz.f146.ntmps = 5 := Tryz.ntmps146
def ic_r9_Undo : IC := (.seq (.ops [.o 1 (.box t0), .o 2 (.mv (.c (.slice none 0 0)))])
  (.seq (.ops [.o 3 (.ld true 5 t1), .o 4 (.call 175 [t3, (.c (.bool true))]), .o 2 (.mv t4)])
  .ret))
theorem hc_r9_Undo : compF Tryz.prog 5 Tryz.f146 = some (ic_r9_Undo, [.t 2]) := by kernel_rfl

theorem fn_r14_forgotten : Tryz.prog.funcs[r14_forgotten]? = some Tryz.f147 := Tryz.func147
theorem nt_r14_forgotten : Tryz.f147.ntmps = 12 := Tryz.ntmps147
def ic_r14_forgotten : IC := (.seq (.ops [.o 1 (.box t0), .o 2 (.alloc (.st (.cons (.st (zc (zc (zc (zc (zc (zc (zc (zc (zc (zc (zc (zc (zc (zc (zc (zc (zc (.cons zs .nil))))))))))))))))))) (.cons (.st (zc (.cons (.st (zc (zc (zc (zc (zc (zc .nil))))))) (.cons zs (.cons (.st (.cons (.arr 12 1 fun _ => zi) .nil)) (.cons (.st (zc (zf (zc (zc (zc (zc (zc (zc (zc (zc (zc (zc (zc (zc (zc .nil)))))))))))))))) (zc (zc (zc (.cons (.st (zc (zc (zc (zc (zc .nil)))))) (zf (zc (zc .nil))))))))))))) (.cons (.st (zc (zc (zc (zc (zc .nil)))))) (.cons zs (zc .nil)))))))])
  (.seq (.seq (.ops [.o 3 (.fa 4 70 t1), .o 4 (.ld false 1 t3), .o 5 (.bin .eql t4 (ci 0))])
  (.cond t5
  (.seq (.ops [.o 6 (.fa 1 18 t1), .o 7 (.fa 9 43 t6), .n (.sto 1 t7 (.c (.bool false)))])
  (.ops [.o 8 (.build (.st (zc (zc (zc (zc (zc .nil)))))) []), .o 9 (.fa 1 18 t1), .o 10 (.fa 8 38 t9), .n (.sto 5 t10 t8)]))
  .skip))
  (.seq (.ops [.o 11 (.ld true 71 t1), .n (.sto 71 t2 t11)])
  .ret)))
theorem hc_r14_forgotten : compF Tryz.prog 12 Tryz.f147 = some (ic_r14_forgotten, [.c 2 true 71]) := by kernel_rfl

theorem fn_r14_noted : Tryz.prog.funcs[r14_noted]? = some Tryz.f148 := Tryz.func148
theorem nt_r14_noted : Tryz.f148.ntmps = 25 := Tryz.ntmps148
def ic_r14_noted : IC := (.seq (.ops [.o 3 (.box t0), .o 6 (.alloc (.st (.cons (.st (zc (zc (zc (zc (zc (zc (zc (zc (zc (zc (zc (zc (zc (zc (zc (zc (zc (.cons zs .nil))))))))))))))))))) (.cons (.st (zc (.cons (.st (zc (zc (zc (zc (zc (zc .nil))))))) (.cons zs (.cons (.st (.cons (.arr 12 1 fun _ => zi) .nil)) (.cons (.st (zc (zf (zc (zc (zc (zc (zc (zc (zc (zc (zc (zc (zc (zc (zc .nil)))))))))))))))) (zc (zc (zc (.cons (.st (zc (zc (zc (zc (zc .nil)))))) (zf (zc (zc .nil))))))))))))) (.cons (.st (zc (zc (zc (zc (zc .nil)))))) (.cons zs (zc .nil)))))))])
  (.seq (.seq (.ops [.o 7 (.fa 4 70 t3), .o 8 (.ld false 1 t7), .o 9 (.bin .eql t8 (ci 0))])
  (.cond t9
  (.ops [.o 10 (.fa 3 69 t3), .o 11 (.ld false 1 t10), .o 12 (.fa 1 18 t3), .o 13 (.fa 0 0 t12), .o 14 (.ld false 1 t13), .o 15 (.mv t1), .o 16 (.fa 1 18 t3), .o 17 (.fa 5 35 t16), .o 18 (.ld false 1 t17), .o 19 (.mv t2), .o 20 (.build (.st (zc (zc (zc (zc (zc (zf .nil))))))) [(1, 1, 1, t14), (2, 2, 1, t15), (3, 3, 1, t18), (4, 4, 1, t19)]), .o 21 (.bsl 6 74 (.st (zc (zc (zc (zc (zc (zf .nil))))))) [(0, 0, 6, t20)]), .o 22 (.app 6 48 74 t11 t21), .o 23 (.fa 3 69 t3), .n (.sto 1 t23 t22)])
  .skip))
  (.seq (.ops [.o 24 (.ld true 71 t3), .n (.sto 71 t6 t24)])
  .ret)))
theorem hc_r14_noted : compF Tryz.prog 25 Tryz.f148 = some (ic_r14_noted, [.c 6 true 71]) := by kernel_rfl

theorem fn_r14_owed : Tryz.prog.funcs[r14_owed]? = some Tryz.f149 := Tryz.func149
theorem nt_r14_owed : Tryz.f149.ntmps = 10 := Tryz.ntmps149
def ic_r14_owed : IC := (.seq (.ops [.o 1 (.box t0), .o 2 (.alloc (.st (zc (zc (zc .nil)))))])
  (.seq (.dops [.o 3 (.ld true 46 t1), .o 4 (.call 46 [t3, (ci 3)]), .o 5 (.ld true 46 t1), .o 6 (.call 46 [t5, (ci 2)]), .o 7 (.ld true 46 t1), .o 8 (.call 46 [t7, (ci 1)]), .o 9 (.build (.st (zc (zc (zc .nil)))) [(0, 0, 1, t4), (1, 1, 1, t6), (2, 2, 1, t8)]), .n (.sto 3 t2 t9)])
  .ret))
theorem hc_r14_owed : compF Tryz.prog 10 Tryz.f149 = some (ic_r14_owed, [.c 2 true 3]) := by kernel_rfl

theorem fn_r14_sum : Tryz.prog.funcs[r14_sum]? = some Tryz.f150 := Tryz.func150
theorem nt_r14_sum : Tryz.f150.ntmps = 11 := Tryz.ntmps150
def ic_r14_sum : IC := (.seq (.ops [.o 1 (.box t0), .o 2 (.mv (ci 0))])
  (.seq (.ops [.o 3 (.fa 0 0 t1), .o 4 (.ld false 1 t3), .o 5 (.fa 1 1 t1), .o 6 (.ld false 1 t5), .o 7 (.bin .add t4 t6), .o 8 (.fa 2 2 t1), .o 9 (.ld false 1 t8), .o 10 (.bin .add t7 t9), .o 2 (.mv t10)])
  .ret))
theorem hc_r14_sum : compF Tryz.prog 11 Tryz.f150 = some (ic_r14_sum, [.t 2]) := by kernel_rfl

theorem fn_arrears_policy_between_int_1 : Tryz.prog.funcs[arrears_policy_between_int_1]? = some Tryz.f151 := Tryz.func151
theorem nt_arrears_policy_between_int_1 : Tryz.f151.ntmps = 20 := Tryz.ntmps151
def ic_arrears_policy_between_int_1 : IC := (.seq (.ops [.o 4 (.box t0), .o 5 (.mv (.c (.bool false)))])
  (.seq (.ops [.o 7 (.ld false 1 t1), .o 8 (.ld true 18 t4), .o 9 (.calv t7 [t8]), .o 6 (.mv t9)])
  (.seq (.ops [.o 10 (.mv t6), .o 11 (.ld false 1 t2), .o 12 (.ld true 18 t4), .o 13 (.calv t11 [t12]), .o 14 (.bin .geq t10 t13), .o 15 (.mv t14), .og 16 15 true (.mv t6), .og 17 15 true (.ld false 1 t3), .og 18 15 true (.bin .leq t16 t17), .o 19 (.pick t15 t18 (.c (.bool false))), .o 5 (.mv t19)])
  .ret)))
theorem hc_arrears_policy_between_int_1 : compF Tryz.prog 20 Tryz.f151 = some (ic_arrears_policy_between_int_1, [.t 5]) := by kernel_rfl

theorem fn_arrears_policy_from_int_1 : Tryz.prog.funcs[arrears_policy_from_int_1]? = some Tryz.f152 := Tryz.func152
theorem nt_arrears_policy_from_int_1 : Tryz.f152.ntmps = 5 := Tryz.ntmps152
def ic_arrears_policy_from_int_1 : IC := (.seq (.ops [.o 2 (.box t0), .o 3 (.mv (ci 0))])
  (.seq (.ops [.o 4 (.ld false 1 t1), .o 3 (.mv t4)])
  .ret))
theorem hc_arrears_policy_from_int_1 : compF Tryz.prog 5 Tryz.f152 = some (ic_arrears_policy_from_int_1, [.t 3]) := by kernel_rfl

theorem fn_arrears_policy_between_int64_1 : Tryz.prog.funcs[arrears_policy_between_int64_1]? = some Tryz.f153 := Tryz.func153
theorem nt_arrears_policy_between_int64_1 : Tryz.f153.ntmps = 20 := Tryz.ntmps153
def ic_arrears_policy_between_int64_1 : IC := (.seq (.ops [.o 4 (.box t0), .o 5 (.mv (.c (.bool false)))])
  (.seq (.ops [.o 7 (.ld false 1 t1), .o 8 (.ld true 18 t4), .o 9 (.calv t7 [t8]), .o 6 (.mv t9)])
  (.seq (.ops [.o 10 (.mv t6), .o 11 (.ld false 1 t2), .o 12 (.ld true 18 t4), .o 13 (.calv t11 [t12]), .o 14 (.bin .geq t10 t13), .o 15 (.mv t14), .og 16 15 true (.mv t6), .og 17 15 true (.ld false 1 t3), .og 18 15 true (.bin .leq t16 t17), .o 19 (.pick t15 t18 (.c (.bool false))), .o 5 (.mv t19)])
  .ret)))
theorem hc_arrears_policy_between_int64_1 : compF Tryz.prog 20 Tryz.f153 = some (ic_arrears_policy_between_int64_1, [.t 5]) := by kernel_rfl

theorem fn_arrears_policy_from_int64_1 : Tryz.prog.funcs[arrears_policy_from_int64_1]? = some Tryz.f154 := Tryz.func154
theorem nt_arrears_policy_from_int64_1 : Tryz.f154.ntmps = 5 := Tryz.ntmps154
def ic_arrears_policy_from_int64_1 : IC := (.seq (.ops [.o 2 (.box t0), .o 3 (.mv (ci 0))])
  (.seq (.ops [.o 4 (.ld false 1 t1), .o 3 (.mv t4)])
  .ret))
theorem hc_arrears_policy_from_int64_1 : compF Tryz.prog 5 Tryz.f154 = some (ic_arrears_policy_from_int64_1, [.t 3]) := by kernel_rfl

theorem fn_r10_amounts : Tryz.prog.funcs[r10_amounts]? = some Tryz.f156 := Tryz.func156
theorem nt_r10_amounts : Tryz.f156.ntmps = 25 := Tryz.ntmps156
def ic_r10_amounts : IC := (.seq (.ops [.o 2 (.mv (.c (.slice none 0 0)))])
  (.seq (.ops [.o 3 (.mv (.c (.slice none 0 0)))])
  (.seq (.seq (.ops [.o 4 (.mv (ci 0))])
  (.block 0 (.loop (.seq (.seq (.ops [.o 5 (.mv t4), .o 6 (.mv t0), .o 7 (.len t6), .o 8 (.bin .lss t5 t7)])
  (.cond t8
  .skip
  (.exit 0)))
  (.seq (.block 1 (.dops [.o 11 (.mv t3), .o 12 (.mv t0), .o 13 (.mv t4), .o 14 (.ixs 4 t12 t13), .o 15 (.fa 1 1 t14), .o 16 (.ld false 1 t15), .o 17 (.mv t0), .o 18 (.mv t4), .o 19 (.ixs 4 t17 t18), .o 20 (.fa 2 2 t19), .o 21 (.ld false 1 t20), .o 22 (.bsl 1 2 zi [(0, 0, 1, t16), (1, 1, 1, t21)]), .o 23 (.app 1 8 2 t11 t22), .o 3 (.mv t23)]))
  (.ops [.o 9 (.mv t4), .o 10 (.bin .add t9 (ci 1)), .o 4 (.mv t10)]))))))
  (.seq (.ops [.o 24 (.mv t3), .o 2 (.mv t24)])
  .ret))))
theorem hc_r10_amounts : compF Tryz.prog 25 Tryz.f156 = some (ic_r10_amounts, [.t 2]) := by kernel_rfl

theorem fn_r3_isRate : Tryz.prog.funcs[r3_isRate]? = some Tryz.f158 := Tryz.func158
theorem nt_r3_isRate : Tryz.f158.ntmps = 9 := Tryz.ntmps158
def ic_r3_isRate : IC := (.seq (.ops [.o 2 (.mv (.c (.bool false)))])
  (.seq (.ops [.o 3 (.mv t0), .o 4 (.bin .geq t3 (ci 0)), .o 5 (.mv t4), .og 6 5 true (.mv t0), .og 7 5 true (.bin .leq t6 (ci 100000)), .o 8 (.pick t5 t7 (.c (.bool false))), .o 2 (.mv t8)])
  .ret))
theorem hc_r3_isRate : compF Tryz.prog 9 Tryz.f158 = some (ic_r3_isRate, [.t 2]) := by kernel_rfl

theorem fn_r3_PaysOff : Tryz.prog.funcs[r3_PaysOff]? = some Tryz.f159 := Tryz.func159
theorem nt_r3_PaysOff : Tryz.f159.ntmps = 32 := Tryz.ntmps159
def ic_r3_PaysOff : IC := (.seq (.ops [.o 8 (.mv (.c (.bool false)))])
  (.seq (.seq (.ops [.o 9 (.mv (ci 0))])
  (.block 0 (.loop (.seq (.seq (.ops [.o 11 (.mv t9), .o 12 (.mv t3), .o 13 (.bin .lss t11 t12)])
  (.cond t13
  .skip
  (.exit 0)))
  (.seq (.block 1 (.seq (.ops [.o 16 (.mv t1), .o 17 (.mv t2), .o 18 (.call 135 [t16, t17]), .o 10 (.mv t18)])
  (.seq (.seq (.ops [.o 19 (.mv t0), .o 20 (.mv t10), .o 21 (.bin .leq t19 t20)])
  (.cond t21
  (.seq (.ops [.o 8 (.mv (.c (.bool false)))])
  .ret)
  .skip))
  (.seq (.seq (.ops [.o 22 (.mv t0), .o 23 (.mv t10), .o 24 (.bin .sub t22 t23), .o 25 (.mv t1), .o 26 (.bin .geq t24 t25)])
  (.cond t26
  (.seq (.ops [.o 8 (.mv (.c (.bool true)))])
  .ret)
  .skip))
  (.ops [.o 27 (.mv t1), .o 28 (.mv t0), .o 29 (.mv t10), .o 30 (.bin .sub t28 t29), .o 31 (.bin .sub t27 t30), .o 1 (.mv t31)])))))
  (.ops [.o 14 (.mv t9), .o 15 (.bin .add t14 (ci 1)), .o 9 (.mv t15)]))))))
  (.seq (.ops [.o 8 (.mv (.c (.bool false)))])
  .ret)))
theorem hc_r3_PaysOff : compF Tryz.prog 32 Tryz.f159 = some (ic_r3_PaysOff, [.t 8]) := by kernel_rfl

theorem fn_r2_Civil : Tryz.prog.funcs[r2_Civil]? = some Tryz.f160 := Tryz.func160
theorem nt_r2_Civil : Tryz.f160.ntmps = 48 := Tryz.ntmps160
def ic_r2_Civil : IC := (.seq (.ops [.o 2 (.alloc (.st (zc (zc (zc .nil))))), .o 3 (.mv (.c (.bool false)))])
  (.seq (.seq (.ops [.o 8 (.mv t0), .o 9 (.call 176 [t8]), .o 10 (.un .not t9)])
  (.cond t10
  (.seq (.ops [.o 11 (.build (.st (zc (zc (zc .nil)))) []), .n (.sto 3 t2 t11), .o 3 (.mv (.c (.bool false)))])
  .ret)
  .skip))
  (.seq (.ops [.o 12 (.mv t0), .o 13 (.bin .sub t12 (ci 1)), .o 14 (.bin .quo t13 (ci 146097)), .o 4 (.mv t14)])
  (.seq (.ops [.o 15 (.mv t0), .o 16 (.mv t4), .o 17 (.bin .mul t16 (ci 146097)), .o 18 (.bin .sub t15 t17), .o 5 (.mv t18)])
  (.seq (.ops [.o 19 (.mv t4), .o 20 (.bin .mul (ci 400) t19), .o 21 (.bin .add t20 (ci 1)), .o 6 (.mv t21)])
  (.seq (.block 0 (.loop (.seq (.seq (.ops [.o 22 (.mv t5), .o 23 (.mv t6), .o 24 (.call 177 [t23]), .o 25 (.bin .gtr t22 t24)])
  (.cond t25
  .skip
  (.exit 0)))
  (.block 1 (.seq (.ops [.o 26 (.mv t5), .o 27 (.mv t6), .o 28 (.call 177 [t27]), .o 29 (.bin .sub t26 t28), .o 5 (.mv t29)])
  (.ops [.o 30 (.mv t6), .o 31 (.bin .add t30 (ci 1)), .o 6 (.mv t31)]))))))
  (.seq (.ops [.o 7 (.mv (ci 1))])
  (.seq (.block 2 (.loop (.seq (.seq (.ops [.o 32 (.mv t5), .o 33 (.mv t6), .o 34 (.mv t7), .o 35 (.call 178 [t33, t34]), .o 36 (.bin .gtr t32 t35)])
  (.cond t36
  .skip
  (.exit 2)))
  (.block 3 (.seq (.ops [.o 37 (.mv t5), .o 38 (.mv t6), .o 39 (.mv t7), .o 40 (.call 178 [t38, t39]), .o 41 (.bin .sub t37 t40), .o 5 (.mv t41)])
  (.ops [.o 42 (.mv t7), .o 43 (.bin .add t42 (ci 1)), .o 7 (.mv t43)]))))))
  (.seq (.ops [.o 44 (.mv t6), .o 45 (.mv t7), .o 46 (.mv t5), .o 47 (.build (.st (zc (zc (zc .nil)))) [(0, 0, 1, t44), (1, 1, 1, t45), (2, 2, 1, t46)]), .n (.sto 3 t2 t47), .o 3 (.mv (.c (.bool true)))])
  .ret)))))))))
theorem hc_r2_Civil : compF Tryz.prog 48 Tryz.f160 = some (ic_r2_Civil, [.c 2 true 3, .t 3]) := by kernel_rfl

theorem fn_r2_AddMonths : Tryz.prog.funcs[r2_AddMonths]? = some Tryz.f161 := Tryz.func161
theorem nt_r2_AddMonths : Tryz.f161.ntmps = 78 := Tryz.ntmps161
def ic_r2_AddMonths : IC := (.seq (.ops [.o 6 (.mv (ci 0)), .o 7 (.mv (.c (.bool false)))])
  (.seq (.seq (.ops [.o 16 (.mv t0), .o 17 (.call 176 [t16]), .o 18 (.un .not t17), .o 19 (.mv t18), .og 20 19 false (.mv t2), .og 21 19 false (.bin .lss t20 (ci 1)), .o 22 (.pick t19 (.c (.bool true)) t21), .o 23 (.mv t22), .og 24 23 false (.mv t2), .og 25 23 false (.bin .gtr t24 (ci 31)), .o 26 (.pick t23 (.c (.bool true)) t25), .o 27 (.mv t26), .og 28 27 false (.mv t1), .og 29 27 false (.bin .lss t28 (ci (-119987))), .o 30 (.pick t27 (.c (.bool true)) t29), .o 31 (.mv t30), .og 32 31 false (.mv t1), .og 33 31 false (.bin .gtr t32 (ci 119987)), .o 34 (.pick t31 (.c (.bool true)) t33)])
  (.cond t34
  (.seq (.ops [.o 6 (.mv (ci 0)), .o 7 (.mv (.c (.bool false)))])
  .ret)
  .skip))
  (.seq (.ops [.o 36 (.mv t0), .o 37 (.call 160 [t36]), .o 35 (.mv t37), .o 38 (.ext 0 t35), .o 39 (.ext 1 t35), .o 8 (.alloc (.st (zc (zc (zc .nil))))), .n (.sto 3 t8 t38), .o 9 (.mv t39)])
  (.seq (.ops [.o 40 (.fa 0 0 t8), .o 41 (.ld false 1 t40), .o 42 (.bin .sub t41 (ci 1)), .o 43 (.bin .mul (ci 12) t42), .o 44 (.fa 1 1 t8), .o 45 (.ld false 1 t44), .o 46 (.bin .add t43 t45), .o 47 (.bin .sub t46 (ci 1)), .o 48 (.mv t1), .o 49 (.bin .add t47 t48), .o 10 (.mv t49)])
  (.seq (.seq (.ops [.o 50 (.mv t10), .o 51 (.bin .lss t50 (ci 0)), .o 52 (.mv t51), .og 53 52 false (.mv t10), .og 54 52 false (.bin .geq t53 (ci 119988)), .o 55 (.pick t52 (.c (.bool true)) t54)])
  (.cond t55
  (.seq (.ops [.o 6 (.mv (ci 0)), .o 7 (.mv (.c (.bool false)))])
  .ret)
  .skip))
  (.seq (.ops [.o 56 (.mv t10), .o 57 (.bin .quo t56 (ci 12)), .o 58 (.bin .add t57 (ci 1)), .o 11 (.mv t58)])
  (.seq (.ops [.o 59 (.mv t10), .o 60 (.bin .rem t59 (ci 12)), .o 61 (.bin .add t60 (ci 1)), .o 12 (.mv t61)])
  (.seq (.ops [.o 62 (.mv t11), .o 63 (.mv t12), .o 64 (.call 178 [t62, t63]), .o 13 (.mv t64)])
  (.seq (.seq (.ops [.o 65 (.mv t2), .o 66 (.mv t13), .o 67 (.bin .lss t65 t66)])
  (.cond t67
  (.ops [.o 68 (.mv t2), .o 13 (.mv t68)])
  .skip))
  (.seq (.ops [.o 70 (.mv t11), .o 71 (.mv t12), .o 72 (.mv t13), .o 73 (.build (.st (zc (zc (zc .nil)))) [(0, 0, 1, t70), (1, 1, 1, t71), (2, 2, 1, t72)]), .o 74 (.call 179 [t73]), .o 69 (.mv t74), .o 75 (.ext 0 t69), .o 76 (.ext 1 t69), .o 14 (.mv t75), .o 15 (.mv t76)])
  (.seq (.ops [.o 77 (.mv t14), .o 6 (.mv t77), .o 7 (.mv (.c (.bool true)))])
  .ret)))))))))))
theorem hc_r2_AddMonths : compF Tryz.prog 78 Tryz.f161 = some (ic_r2_AddMonths, [.t 6, .t 7]) := by kernel_rfl

theorem fn_r2_Adjust : Tryz.prog.funcs[r2_Adjust]? = some Tryz.f162 := Tryz.func162
theorem nt_r2_Adjust : Tryz.f162.ntmps = 65 := Tryz.ntmps162
def ic_r2_Adjust : IC := (.seq (.ops [.o 6 (.mv (ci 0)), .o 7 (.mv (.c (.bool false)))])
  (.seq (.seq (.ops [.o 14 (.mv t0), .o 15 (.call 176 [t14]), .o 16 (.un .not t15)])
  (.cond t16
  (.seq (.ops [.o 6 (.mv (ci 0)), .o 7 (.mv (.c (.bool false)))])
  .ret)
  .skip))
  (.seq (.seq (.ops [.o 17 (.mv t2)])
  (.block 0 (.seq (.ops [.o 19 (.bin .eql t17 (ci 0)), .o 18 (.mv t19)])
  (.cond t18
  (.seq (.ops [.o 20 (.mv t0), .o 6 (.mv t20), .o 7 (.mv (.c (.bool true)))])
  .ret)
  (.seq (.ops [.o 22 (.bin .eql t17 (ci 1)), .o 21 (.mv t22)])
  (.cond t21
  (.seq (.ops [.o 23 (.mv t0), .o 24 (.mv t1), .o 25 (.call 180 [t23, t24, (ci 1)]), .o 26 (.ext 0 t25), .o 27 (.ext 1 t25), .o 6 (.mv t26), .o 7 (.mv t27)])
  .ret)
  (.seq (.ops [.o 29 (.bin .eql t17 (ci 2)), .o 28 (.mv t29)])
  (.cond t28
  (.seq (.ops [.o 30 (.mv t0), .o 31 (.mv t1), .o 32 (.call 180 [t30, t31, (ci (-1))]), .o 33 (.ext 0 t32), .o 34 (.ext 1 t32), .o 6 (.mv t33), .o 7 (.mv t34)])
  .ret)
  (.seq (.ops [.o 36 (.bin .eql t17 (ci 3)), .o 35 (.mv t36)])
  (.cond t35
  (.seq (.ops [.o 38 (.mv t0), .o 39 (.mv t1), .o 40 (.call 180 [t38, t39, (ci 1)]), .o 37 (.mv t40), .o 41 (.ext 0 t37), .o 42 (.ext 1 t37), .o 8 (.mv t41), .o 9 (.mv t42)])
  (.seq (.seq (.ops [.o 43 (.mv t9)])
  (.cond t43
  (.seq (.ops [.o 45 (.mv t0), .o 46 (.call 160 [t45]), .o 44 (.mv t46), .o 47 (.ext 0 t44), .o 48 (.ext 1 t44), .o 10 (.alloc (.st (zc (zc (zc .nil))))), .n (.sto 3 t10 t47), .o 11 (.mv t48)])
  (.seq (.ops [.o 50 (.mv t8), .o 51 (.call 160 [t50]), .o 49 (.mv t51), .o 52 (.ext 0 t49), .o 53 (.ext 1 t49), .o 12 (.alloc (.st (zc (zc (zc .nil))))), .n (.sto 3 t12 t52), .o 13 (.mv t53)])
  (.seq (.ops [.o 54 (.fa 1 1 t10), .o 55 (.ld false 1 t54), .o 56 (.fa 1 1 t12), .o 57 (.ld false 1 t56), .o 58 (.bin .eql t55 t57)])
  (.cond t58
  (.seq (.ops [.o 59 (.mv t8), .o 6 (.mv t59), .o 7 (.mv (.c (.bool true)))])
  .ret)
  .skip))))
  .skip))
  (.seq (.ops [.o 60 (.mv t0), .o 61 (.mv t1), .o 62 (.call 180 [t60, t61, (ci (-1))]), .o 63 (.ext 0 t62), .o 64 (.ext 1 t62), .o 6 (.mv t63), .o 7 (.mv t64)])
  .ret)))
  .skip))))))))))
  (.seq (.ops [.o 6 (.mv (ci 0)), .o 7 (.mv (.c (.bool false)))])
  .ret))))
theorem hc_r2_Adjust : compF Tryz.prog 65 Tryz.f162 = some (ic_r2_Adjust, [.t 6, .t 7]) := by kernel_rfl

theorem fn_r8_refused : Tryz.prog.funcs[r8_refused]? = some Tryz.f163 := Tryz.func163
theorem nt_r8_refused : Tryz.f163.ntmps = 23 := Tryz.ntmps163
def ic_r8_refused : IC := (.seq (.ops [.o 1 (.box t0), .o 2 (.mv (ci 0))])
  (.seq (.seq (.ops [.o 3 (.fa 0 0 t1), .o 4 (.ld false 1 t3), .o 5 (.call 128 [t4]), .o 6 (.un .not t5), .o 7 (.mv t6), .og 8 7 false (.fa 1 1 t1), .og 9 7 false (.ld false 1 t8), .og 10 7 false (.call 128 [t9]), .og 11 7 false (.un .not t10), .o 12 (.pick t7 (.c (.bool true)) t11), .o 13 (.mv t12), .og 14 13 false (.fa 0 0 t1), .og 15 13 false (.ld false 1 t14), .og 16 13 false (.fa 1 1 t1), .og 17 13 false (.ld false 1 t16), .og 18 13 false (.bin .eql t15 t17), .o 19 (.pick t13 (.c (.bool true)) t18)])
  (.cond t19
  (.seq (.ops [.o 2 (.mv (ci 80))])
  .ret)
  .skip))
  (.seq (.seq (.ops [.o 20 (.fa 2 2 t1), .o 21 (.ld false 1 t20), .o 22 (.bin .lss t21 (ci 1))])
  (.cond t22
  (.seq (.ops [.o 2 (.mv (ci 4))])
  .ret)
  .skip))
  (.seq (.ops [.o 2 (.mv (ci 0))])
  .ret))))
theorem hc_r8_refused : compF Tryz.prog 23 Tryz.f163 = some (ic_r8_refused, [.t 2]) := by kernel_rfl

theorem fn_r8_moves : Tryz.prog.funcs[r8_moves]? = some Tryz.f164 := Tryz.func164
theorem nt_r8_moves : Tryz.f164.ntmps = 54 := Tryz.ntmps164
def ic_r8_moves : IC := (.seq (.ops [.o 3 (.box t0), .o 6 (.mv (.c (.slice none 0 0)))])
  (.seq (.ops [.o 7 (.mv (.c (.slice none 0 0)))])
  (.seq (.ops [.o 9 (.mv t7), .o 10 (.mv t2), .o 11 (.fa 0 0 t3), .o 12 (.ixa 12 1 t11 t10), .o 13 (.ld false 1 t12), .o 14 (.bsl 1 2 zi [(0, 0, 1, t13)]), .o 15 (.app 1 8 2 t9 t14), .o 7 (.mv t15)])
  (.seq (.seq (.ops [.o 8 (.mv (ci 0))])
  (.block 0 (.loop (.seq (.seq (.ops [.o 16 (.mv t8), .o 17 (.mv t1), .o 18 (.len t17), .o 19 (.bin .lss t16 t18)])
  (.cond t19
  .skip
  (.exit 0)))
  (.seq (.block 1 (.seq (.seq (.ops [.o 22 (.mv t1), .o 23 (.mv t8), .o 24 (.ixs 3 t22 t23), .o 25 (.fa 0 0 t24), .o 26 (.ld false 1 t25), .o 27 (.mv t2), .o 28 (.bin .eql t26 t27)])
  (.cond t28
  (.ops [.o 29 (.mv t7), .o 30 (.mv t1), .o 31 (.mv t8), .o 32 (.ixs 3 t30 t31), .o 33 (.fa 2 2 t32), .o 34 (.ld false 1 t33), .o 35 (.bsl 1 2 zi [(0, 0, 1, t34)]), .o 36 (.app 1 8 2 t29 t35), .o 7 (.mv t36)])
  .skip))
  (.seq (.ops [.o 37 (.mv t1), .o 38 (.mv t8), .o 39 (.ixs 3 t37 t38), .o 40 (.fa 1 1 t39), .o 41 (.ld false 1 t40), .o 42 (.mv t2), .o 43 (.bin .eql t41 t42)])
  (.cond t43
  (.ops [.o 44 (.mv t7), .o 45 (.mv t1), .o 46 (.mv t8), .o 47 (.ixs 3 t45 t46), .o 48 (.fa 2 2 t47), .o 49 (.ld false 1 t48), .o 50 (.un .neg t49), .o 51 (.bsl 1 2 zi [(0, 0, 1, t50)]), .o 52 (.app 1 8 2 t44 t51), .o 7 (.mv t52)])
  .skip))))
  (.ops [.o 20 (.mv t8), .o 21 (.bin .add t20 (ci 1)), .o 8 (.mv t21)]))))))
  (.seq (.ops [.o 53 (.mv t7), .o 6 (.mv t53)])
  .ret)))))
theorem hc_r8_moves : compF Tryz.prog 54 Tryz.f164 = some (ic_r8_moves, [.t 6]) := by kernel_rfl

theorem fn_r8_OwnSide : Tryz.prog.funcs[r8_OwnSide]? = some Tryz.f165 := Tryz.func165
theorem nt_r8_OwnSide : Tryz.f165.ntmps = 11 := Tryz.ntmps165
def ic_r8_OwnSide : IC := (.seq (.ops [.o 4 (.mv (.c (.bool false)))])
  (.seq (.seq (.ops [.o 5 (.mv t0), .o 6 (.call 129 [t5])])
  (.cond t6
  (.seq (.ops [.o 7 (.mv t1), .o 8 (.bin .geq t7 (ci 0)), .o 4 (.mv t8)])
  .ret)
  .skip))
  (.seq (.ops [.o 9 (.mv t1), .o 10 (.bin .leq t9 (ci 0)), .o 4 (.mv t10)])
  .ret)))
theorem hc_r8_OwnSide : compF Tryz.prog 11 Tryz.f165 = some (ic_r8_OwnSide, [.t 4]) := by kernel_rfl

theorem fn_r3_Span : Tryz.prog.funcs[r3_Span]? = some Tryz.f166 := Tryz.func166
theorem nt_r3_Span : Tryz.f166.ntmps = 70 := Tryz.ntmps166
def ic_r3_Span : IC := (.seq (.ops [.o 8 (.mv (ci 0)), .o 9 (.mv (ci 0)), .o 10 (.mv (.c (.bool false)))])
  (.seq (.seq (.ops [.o 15 (.mv t0), .o 16 (.bin .lss t15 (ci 0)), .o 17 (.mv t16), .og 18 17 false (.mv t1), .og 19 17 false (.call 158 [t18]), .og 20 17 false (.un .not t19), .o 21 (.pick t17 (.c (.bool true)) t20), .o 22 (.mv t21), .og 23 22 false (.mv t2), .og 24 22 false (.bin .lss t23 (ci 0)), .o 25 (.pick t22 (.c (.bool true)) t24), .o 26 (.mv t25), .og 27 26 false (.mv t2), .og 28 26 false (.bin .geq t27 (ci 3650000)), .o 29 (.pick t26 (.c (.bool true)) t28), .o 30 (.mv t29), .og 31 30 false (.mv t3), .og 32 30 false (.bin .lss t31 (ci 0)), .o 33 (.pick t30 (.c (.bool true)) t32), .o 34 (.mv t33), .og 35 34 false (.mv t3), .og 36 34 false (.bin .gtr t35 (ci 3652059)), .o 37 (.pick t34 (.c (.bool true)) t36)])
  (.cond t37
  (.seq (.ops [.o 8 (.mv (ci 0)), .o 9 (.mv (ci 0)), .o 10 (.mv (.c (.bool false)))])
  .ret)
  .skip))
  (.seq (.ops [.o 38 (.mv t3), .o 11 (.mv t38)])
  (.seq (.ops [.o 39 (.mv t0), .o 40 (.bin .quo t39 (ci 3650000)), .o 41 (.mv t1), .o 42 (.bin .mul t40 t41), .o 12 (.mv t42)])
  (.seq (.ops [.o 43 (.mv t0), .o 44 (.bin .rem t43 (ci 3650000)), .o 45 (.mv t1), .o 46 (.bin .mul t44 t45), .o 47 (.mv t11), .o 48 (.bin .mul t46 t47), .o 49 (.mv t2), .o 50 (.bin .add t48 t49), .o 13 (.mv t50)])
  (.seq (.ops [.o 51 (.mv t13), .o 52 (.bin .quo t51 (ci 3650000)), .o 14 (.mv t52)])
  (.seq (.seq (.ops [.o 53 (.mv t11), .o 54 (.bin .gtr t53 (ci 0)), .o 55 (.mv t54), .og 56 55 true (.mv t12), .og 57 55 true (.mv t14), .og 58 55 true (.bin .sub (ci 9223372036854775807) t57), .og 59 55 true (.mv t11), .og 60 55 true (.bin .quo t58 t59), .og 61 55 true (.bin .gtr t56 t60), .o 62 (.pick t55 t61 (.c (.bool false)))])
  (.cond t62
  (.seq (.ops [.o 8 (.mv (ci 0)), .o 9 (.mv (ci 0)), .o 10 (.mv (.c (.bool false)))])
  .ret)
  .skip))
  (.seq (.ops [.o 63 (.mv t12), .o 64 (.mv t11), .o 65 (.bin .mul t63 t64), .o 66 (.mv t14), .o 67 (.bin .add t65 t66), .o 68 (.mv t13), .o 69 (.bin .rem t68 (ci 3650000)), .o 8 (.mv t67), .o 9 (.mv t69), .o 10 (.mv (.c (.bool true)))])
  .ret))))))))
theorem hc_r3_Span : compF Tryz.prog 70 Tryz.f166 = some (ic_r3_Span, [.t 8, .t 9, .t 10]) := by kernel_rfl

theorem fn_r13_Step : Tryz.prog.funcs[r13_Step]? = some Tryz.f167 := Tryz.func167
theorem nt_r13_Step : Tryz.f167.ntmps = 55 := Tryz.ntmps167
def ic_r13_Step : IC := (.seq (.ops [.o 3 (.box t0), .o 4 (.box t1), .o 5 (.box t2), .o 6 (.alloc (.st (zc (zf (zc (zc (zc (zc (zc (zc (zc (zc (zc (zc (zc (zc (zc .nil))))))))))))))))), .o 7 (.mv (.c (.slice none 0 0))), .o 8 (.mv (ci 0))])
  (.seq (.ops [.o 15 (.ld true 18 t3), .o 16 (.call 17 [t15]), .o 14 (.mv t16), .o 17 (.ext 0 t14), .o 18 (.ext 1 t14), .o 9 (.mv t17), .o 10 (.mv t18)])
  (.seq (.seq (.ops [.o 19 (.mv t9), .o 20 (.bin .neq t19 (ci 0))])
  (.cond t20
  (.seq (.ops [.o 21 (.ld true 15 t4), .n (.sto 15 t6 t21), .o 7 (.mv (.c (.slice none 0 0))), .o 8 (.mv (ci 120))])
  .ret)
  .skip))
  (.seq (.seq (.ops [.o 22 (.fa 0 0 t5), .o 23 (.ld false 1 t22), .o 24 (.bin .lss t23 (ci 1)), .o 25 (.mv t24), .og 26 25 false (.fa 0 0 t5), .og 27 25 false (.ld false 1 t26), .og 28 25 false (.bin .gtr t27 (ci 7)), .o 29 (.pick t25 (.c (.bool true)) t28)])
  (.cond t29
  (.seq (.ops [.o 30 (.ld true 15 t4), .n (.sto 15 t6 t30), .o 7 (.mv (.c (.slice none 0 0))), .o 8 (.mv (ci 2))])
  .ret)
  .skip))
  (.seq (.ops [.o 31 (.ld true 18 t3), .o 32 (.ld true 4 t5), .o 33 (.call 181 [t31, t32]), .o 11 (.mv t33)])
  (.seq (.seq (.ops [.o 34 (.mv t11), .o 35 (.bin .neq t34 (ci 0))])
  (.cond t35
  (.seq (.ops [.o 36 (.ld true 15 t4), .o 37 (.mv t11), .n (.sto 15 t6 t36), .o 7 (.mv (.c (.slice none 0 0))), .o 8 (.mv t37)])
  .ret)
  .skip))
  (.seq (.ops [.o 38 (.ld true 18 t3), .o 39 (.ld true 15 t4), .o 40 (.ld true 4 t5), .o 41 (.call 182 [t38, t39, t40]), .o 11 (.mv t41)])
  (.seq (.seq (.ops [.o 42 (.mv t11), .o 43 (.bin .neq t42 (ci 0))])
  (.cond t43
  (.seq (.ops [.o 44 (.ld true 15 t4), .o 45 (.mv t11), .n (.sto 15 t6 t44), .o 7 (.mv (.c (.slice none 0 0))), .o 8 (.mv t45)])
  .ret)
  .skip))
  (.seq (.ops [.o 47 (.ld true 18 t3), .o 48 (.ld true 15 t4), .o 49 (.ld true 4 t5), .o 50 (.call 183 [t47, t48, t49]), .o 46 (.mv t50), .o 51 (.ext 0 t46), .o 52 (.ext 1 t46), .o 12 (.alloc (.st (zc (zf (zc (zc (zc (zc (zc (zc (zc (zc (zc (zc (zc (zc (zc .nil))))))))))))))))), .n (.sto 15 t12 t51), .o 13 (.mv t52)])
  (.seq (.ops [.o 53 (.ld true 15 t12), .o 54 (.mv t13), .n (.sto 15 t6 t53), .o 7 (.mv t54), .o 8 (.mv (ci 0))])
  .ret))))))))))
theorem hc_r13_Step : compF Tryz.prog 55 Tryz.f167 = some (ic_r13_Step, [.c 6 true 15, .t 7, .t 8]) := by kernel_rfl

theorem fn_r14_acted : Tryz.prog.funcs[r14_acted]? = some Tryz.f168 := Tryz.func168
theorem nt_r14_acted : Tryz.f168.ntmps = 36 := Tryz.ntmps168
def ic_r14_acted : IC := (.seq (.ops [.o 2 (.box t0), .o 4 (.alloc (.st (.cons (.st (zc (zc (zc (zc (zc (zc (zc (zc (zc (zc (zc (zc (zc (zc (zc (zc (zc (.cons zs .nil))))))))))))))))))) (.cons (.st (zc (.cons (.st (zc (zc (zc (zc (zc (zc .nil))))))) (.cons zs (.cons (.st (.cons (.arr 12 1 fun _ => zi) .nil)) (.cons (.st (zc (zf (zc (zc (zc (zc (zc (zc (zc (zc (zc (zc (zc (zc (zc .nil)))))))))))))))) (zc (zc (zc (.cons (.st (zc (zc (zc (zc (zc .nil)))))) (zf (zc (zc .nil))))))))))))) (.cons (.st (zc (zc (zc (zc (zc .nil)))))) (.cons zs (zc .nil)))))))])
  (.seq (.seq (.ops [.o 5 (.mv t1)])
  (.block 0 (.seq (.seq (.ops [.o 7 (.bin .eql t5 (ci 1)), .o 6 (.mv t7)])
  (.cond t6
  .skip
  (.seq (.ops [.o 8 (.bin .eql t5 (ci 2)), .o 6 (.mv t8)])
  (.cond t6
  .skip
  (.ops [.o 9 (.bin .eql t5 (ci 3)), .o 6 (.mv t9)])))))
  (.cond t6
  (.seq (.dops [.o 10 (.ld true 71 t2), .o 11 (.mv t1), .o 12 (.fa 1 18 t2), .o 13 (.ld true 46 t12), .o 14 (.call 44 [t13]), .o 15 (.call 148 [t10, t11, t14]), .n (.sto 71 t4 t15)])
  .ret)
  (.seq (.ops [.o 17 (.bin .eql t5 (ci 4)), .o 16 (.mv t17)])
  (.cond t16
  (.seq (.ops [.o 18 (.ld true 71 t2), .o 19 (.call 184 [t18]), .n (.sto 71 t4 t19)])
  .ret)
  (.seq (.ops [.o 21 (.bin .eql t5 (ci 6)), .o 20 (.mv t21)])
  (.cond t20
  (.seq (.dops [.o 22 (.ld true 71 t2), .o 23 (.fa 1 18 t2), .o 24 (.ld true 46 t23), .o 25 (.call 46 [t24, (ci 5)]), .o 26 (.call 90 [(.c (.slice none 0 0)), (ci 5), (ci 7), t25]), .o 27 (.call 89 [t22, t26]), .n (.sto 71 t2 t27)])
  (.seq (.ops [.o 28 (.ld true 71 t2), .o 29 (.call 148 [t28, (ci 6), (ci 0)]), .n (.sto 71 t4 t29)])
  .ret))
  (.seq (.ops [.o 31 (.bin .eql t5 (ci 8)), .o 30 (.mv t31)])
  (.cond t30
  (.seq (.ops [.o 32 (.ld true 71 t2), .o 33 (.call 147 [t32]), .o 34 (.call 148 [t33, (ci 8), (ci 0)]), .n (.sto 71 t4 t34)])
  .ret)
  .skip))))))))))
  (.seq (.ops [.o 35 (.ld true 71 t2), .n (.sto 71 t4 t35)])
  .ret)))
theorem hc_r14_acted : compF Tryz.prog 36 Tryz.f168 = some (ic_r14_acted, [.c 4 true 71]) := by kernel_rfl

theorem fn_r13_Open : Tryz.prog.funcs[r13_Open]? = some Tryz.f169 := Tryz.func169
theorem nt_r13_Open : Tryz.f169.ntmps = 16 := Tryz.ntmps169
def ic_r13_Open : IC := (.seq (.ops [.o 1 (.box t0), .o 2 (.mv (.c (.bool false)))])
  (.seq (.ops [.o 3 (.fa 0 0 t1), .o 4 (.ld false 1 t3), .o 5 (.bin .eql t4 (ci 3)), .o 6 (.mv t5), .og 7 6 false (.fa 0 0 t1), .og 8 6 false (.ld false 1 t7), .og 9 6 false (.bin .eql t8 (ci 4)), .o 10 (.pick t6 (.c (.bool true)) t9), .o 11 (.mv t10), .og 12 11 false (.fa 0 0 t1), .og 13 11 false (.ld false 1 t12), .og 14 11 false (.bin .eql t13 (ci 5)), .o 15 (.pick t11 (.c (.bool true)) t14), .o 2 (.mv t15)])
  .ret))
theorem hc_r13_Open : compF Tryz.prog 16 Tryz.f169 = some (ic_r13_Open, [.t 2]) := by kernel_rfl

theorem fn_r10_Missed : Tryz.prog.funcs[r10_Missed]? = some Tryz.f170 := Tryz.func170
theorem nt_r10_Missed : Tryz.f170.ntmps = 46 := Tryz.ntmps170
def ic_r10_Missed : IC := (.seq (.ops [.o 5 (.box t1), .o 8 (.mv (.c (.slice none 0 0)))])
  (.seq (.ops [.o 12 (.mv t0), .o 13 (.call 72 [t12]), .o 9 (.mv t13)])
  (.seq (.seq (.ops [.o 14 (.mv t3), .o 15 (.bin .lss t14 (ci 0))])
  (.cond t15
  (.ops [.o 3 (.mv (ci 0))])
  .skip))
  (.seq (.ops [.o 10 (.mv (.c (.slice none 0 0)))])
  (.seq (.seq (.ops [.o 16 (.mv t9), .o 17 (.ld true 2 t5), .o 18 (.call 73 [t16, t17]), .o 11 (.mv t18)])
  (.block 0 (.loop (.seq (.seq (.ops [.o 19 (.mv t11), .o 20 (.mv t9), .o 21 (.len t20), .o 22 (.bin .lss t19 t21)])
  (.cond t22
  .skip
  (.exit 0)))
  (.seq (.block 1 (.seq (.ops [.o 25 (.mv t9), .o 26 (.mv t11), .o 27 (.ixs 4 t25 t26), .o 28 (.fa 3 3 t27), .o 29 (.ld false 1 t28), .o 30 (.un .not t29), .o 31 (.mv t30), .og 32 31 true (.mv t9), .og 33 31 true (.mv t11), .og 34 31 true (.ixs 4 t32 t33), .og 35 31 true (.ld true 4 t34), .og 36 31 true (.mv t2), .og 37 31 true (.call 125 [t35, t36]), .og 38 31 true (.mv t3), .og 39 31 true (.bin .gtr t37 t38), .o 40 (.pick t31 t39 (.c (.bool false)))])
  (.cond t40
  (.ops [.o 41 (.mv t10), .o 42 (.mv t11), .o 43 (.bsl 1 3 zi [(0, 0, 1, t42)]), .o 44 (.app 1 8 3 t41 t43), .o 10 (.mv t44)])
  .skip)))
  (.ops [.o 23 (.mv t11), .o 24 (.bin .add t23 (ci 1)), .o 11 (.mv t24)]))))))
  (.seq (.ops [.o 45 (.mv t10), .o 8 (.mv t45)])
  .ret))))))
theorem hc_r10_Missed : compF Tryz.prog 46 Tryz.f170 = some (ic_r10_Missed, [.t 8]) := by kernel_rfl

theorem fn_r12_Assess : Tryz.prog.funcs[r12_Assess]? = some Tryz.f171 := Tryz.func171
theorem nt_r12_Assess : Tryz.f171.ntmps = 37 := Tryz.ntmps171
def ic_r12_Assess : IC := (.seq (.ops [.o 4 (.box t0), .o 8 (.mv (ci 0))])
  (.seq (.seq (.ops [.o 10 (.ld true 18 t4), .o 11 (.call 185 [t10]), .o 12 (.un .not t11)])
  (.cond t12
  (.seq (.ops [.o 8 (.mv (ci 0))])
  .ret)
  .skip))
  (.seq (.ops [.o 13 (.ld true 18 t4), .o 14 (.mv t1), .o 15 (.call 186 [t13, t14]), .o 9 (.mv t15)])
  (.seq (.seq (.ops [.o 16 (.fa 7 7 t4), .o 17 (.ld false 1 t16), .o 18 (.mv t2), .o 19 (.call 187 [t17, t18]), .o 20 (.mv t9), .o 21 (.bin .lss t19 t20)])
  (.cond t21
  (.ops [.o 22 (.fa 7 7 t4), .o 23 (.ld false 1 t22), .o 24 (.mv t2), .o 25 (.call 187 [t23, t24]), .o 9 (.mv t25)])
  .skip))
  (.seq (.seq (.ops [.o 26 (.fa 8 8 t4), .o 27 (.ld false 1 t26), .o 28 (.mv t3), .o 29 (.call 187 [t27, t28]), .o 30 (.mv t9), .o 31 (.bin .lss t29 t30)])
  (.cond t31
  (.ops [.o 32 (.fa 8 8 t4), .o 33 (.ld false 1 t32), .o 34 (.mv t3), .o 35 (.call 187 [t33, t34]), .o 9 (.mv t35)])
  .skip))
  (.seq (.ops [.o 36 (.mv t9), .o 8 (.mv t36)])
  .ret))))))
theorem hc_r12_Assess : compF Tryz.prog 37 Tryz.f171 = some (ic_r12_Assess, [.t 8]) := by kernel_rfl

theorem fn_r10_Mark : Tryz.prog.funcs[r10_Mark]? = some Tryz.f172 := Tryz.func172
theorem nt_r10_Mark : Tryz.f172.ntmps = 37 := Tryz.ntmps172
def ic_r10_Mark : IC := (.seq (.ops [.o 4 (.mv (.c (.slice none 0 0)))])
  (.seq (.ops [.o 5 (.mv (.c (.slice none 0 0)))])
  (.seq (.seq (.ops [.o 6 (.mv (ci 0))])
  (.block 0 (.loop (.seq (.seq (.ops [.o 9 (.mv t6), .o 10 (.mv t0), .o 11 (.len t10), .o 12 (.bin .lss t9 t11)])
  (.cond t12
  .skip
  (.exit 0)))
  (.seq (.block 1 (.seq (.ops [.o 15 (.mv t0), .o 16 (.mv t6), .o 17 (.ixs 4 t15 t16), .o 18 (.ld true 4 t17), .o 7 (.alloc (.st (zc (zc (zc (zf .nil)))))), .n (.sto 4 t7 t18)])
  (.seq (.seq (.ops [.o 8 (.mv (ci 0))])
  (.block 2 (.loop (.seq (.seq (.ops [.o 19 (.mv t8), .o 20 (.mv t1), .o 21 (.len t20), .o 22 (.bin .lss t19 t21)])
  (.cond t22
  .skip
  (.exit 2)))
  (.seq (.block 3 (.seq (.ops [.o 25 (.mv t1), .o 26 (.mv t8), .o 27 (.ixs 1 t25 t26), .o 28 (.ld false 1 t27), .o 29 (.mv t6), .o 30 (.bin .eql t28 t29)])
  (.cond t30
  (.ops [.o 31 (.fa 3 3 t7), .n (.sto 1 t31 (.c (.bool true)))])
  .skip)))
  (.ops [.o 23 (.mv t8), .o 24 (.bin .add t23 (ci 1)), .o 8 (.mv t24)]))))))
  (.ops [.o 32 (.mv t5), .o 33 (.ld true 4 t7), .o 34 (.bsl 4 72 (.st (zc (zc (zc (zf .nil))))) [(0, 0, 4, t33)]), .o 35 (.app 4 32 72 t32 t34), .o 5 (.mv t35)]))))
  (.ops [.o 13 (.mv t6), .o 14 (.bin .add t13 (ci 1)), .o 6 (.mv t14)]))))))
  (.seq (.ops [.o 36 (.mv t5), .o 4 (.mv t36)])
  .ret))))
theorem hc_r10_Mark : compF Tryz.prog 37 Tryz.f172 = some (ic_r10_Mark, [.t 4]) := by kernel_rfl

theorem fn_r9_Recover : Tryz.prog.funcs[r9_Recover]? = some Tryz.f173 := Tryz.func173
theorem nt_r9_Recover : Tryz.f173.ntmps = 25 := Tryz.ntmps173
def ic_r9_Recover : IC := (.seq (.ops [.o 4 (.alloc (.st (zc (zc (zc (zc (zc .nil))))))), .o 5 (.mv (ci 0))])
  (.seq (.ops [.o 6 (.alloc (.st (zc (zc (zc (zc (zc .nil)))))))])
  (.seq (.seq (.ops [.o 7 (.mv t0), .o 8 (.bin .lss t7 (ci 0))])
  (.cond t8
  (.seq (.ops [.o 9 (.ld true 5 t6), .n (.sto 5 t4 t9), .o 5 (.mv (ci 2))])
  .ret)
  .skip))
  (.seq (.seq (.ops [.o 10 (.mv t1), .o 11 (.bin .lss t10 (ci 1))])
  (.cond t11
  (.seq (.ops [.o 12 (.ld true 5 t6), .n (.sto 5 t4 t12), .o 5 (.mv (ci 4))])
  .ret)
  .skip))
  (.seq (.seq (.ops [.o 13 (.mv t1), .o 14 (.mv t0), .o 15 (.bin .gtr t13 t14)])
  (.cond t15
  (.seq (.ops [.o 16 (.mv t0), .o 17 (.fa 4 4 t6), .n (.sto 1 t17 t16)])
  (.ops [.o 18 (.mv t1), .o 19 (.mv t0), .o 20 (.bin .sub t18 t19), .o 21 (.fa 3 3 t6), .n (.sto 1 t21 t20)]))
  (.ops [.o 22 (.mv t1), .o 23 (.fa 4 4 t6), .n (.sto 1 t23 t22)])))
  (.seq (.ops [.o 24 (.ld true 5 t6), .n (.sto 5 t4 t24), .o 5 (.mv (ci 0))])
  .ret))))))
theorem hc_r9_Recover : compF Tryz.prog 25 Tryz.f173 = some (ic_r9_Recover, [.c 4 true 5, .t 5]) := by kernel_rfl

theorem fn_r9_Allocate : Tryz.prog.funcs[r9_Allocate]? = some Tryz.f174 := Tryz.func174
theorem nt_r9_Allocate : Tryz.f174.ntmps = 61 := Tryz.ntmps174
def ic_r9_Allocate : IC := (.seq (.ops [.o 4 (.box t1), .o 6 (.alloc (.st (zc (zc (zc (zc (zc .nil))))))), .o 7 (.mv (ci 0))])
  (.seq (.ops [.o 8 (.alloc (.st (zc (zc (zc (zc (zc .nil)))))))])
  (.seq (.seq (.ops [.o 11 (.mv t0), .o 12 (.call 188 [t11, (ci 0)]), .o 13 (.bin .lss t12 (ci 0)), .o 14 (.mv t13), .og 15 14 false (.fa 0 0 t4), .og 16 14 false (.ld false 1 t15), .og 17 14 false (.bin .lss t16 (ci 0)), .o 18 (.pick t14 (.c (.bool true)) t17), .o 19 (.mv t18), .og 20 19 false (.fa 1 1 t4), .og 21 19 false (.ld false 1 t20), .og 22 19 false (.bin .lss t21 (ci 0)), .o 23 (.pick t19 (.c (.bool true)) t22), .o 24 (.mv t23), .og 25 24 false (.fa 2 2 t4), .og 26 24 false (.ld false 1 t25), .og 27 24 false (.bin .lss t26 (ci 0)), .o 28 (.pick t24 (.c (.bool true)) t27)])
  (.cond t28
  (.seq (.ops [.o 29 (.ld true 5 t8), .n (.sto 5 t6 t29), .o 7 (.mv (ci 2))])
  .ret)
  .skip))
  (.seq (.seq (.ops [.o 30 (.mv t2), .o 31 (.bin .lss t30 (ci 1))])
  (.cond t31
  (.seq (.ops [.o 32 (.ld true 5 t8), .n (.sto 5 t6 t32), .o 7 (.mv (ci 4))])
  .ret)
  .skip))
  (.seq (.seq (.ops [.o 9 (.mv (ci 0))])
  (.block 0 (.loop (.seq (.seq (.ops [.o 33 (.mv t9), .o 34 (.bin .lss t33 (ci 3))])
  (.cond t34
  .skip
  (.exit 0)))
  (.seq (.block 1 (.seq (.ops [.o 37 (.mv t0), .o 38 (.ld true 3 t4), .o 39 (.mv t2), .o 40 (.mv t9), .o 41 (.call 189 [t37, t38, t39, t40]), .o 10 (.mv t41)])
  (.seq (.ops [.o 42 (.mv t0), .o 43 (.mv t9), .o 44 (.call 188 [t42, t43])])
  (.block 2 (.seq (.ops [.o 48 (.bin .eql t44 (ci 3)), .o 47 (.mv t48)])
  (.cond t47
  (.ops [.o 49 (.mv t10), .o 50 (.fa 0 0 t8), .n (.sto 1 t50 t49)])
  (.seq (.ops [.o 52 (.bin .eql t44 (ci 2)), .o 51 (.mv t52)])
  (.cond t51
  (.ops [.o 53 (.mv t10), .o 54 (.fa 1 1 t8), .n (.sto 1 t54 t53)])
  (.ops [.o 45 (.mv t10), .o 46 (.fa 2 2 t8), .n (.sto 1 t46 t45)])))))))))
  (.ops [.o 35 (.mv t9), .o 36 (.bin .add t35 (ci 1)), .o 9 (.mv t36)]))))))
  (.seq (.ops [.o 55 (.mv t0), .o 56 (.ld true 3 t4), .o 57 (.mv t2), .o 58 (.call 189 [t55, t56, t57, (ci 3)]), .o 59 (.fa 3 3 t8), .n (.sto 1 t59 t58)])
  (.seq (.ops [.o 60 (.ld true 5 t8), .n (.sto 5 t6 t60), .o 7 (.mv (ci 0))])
  .ret)))))))
theorem hc_r9_Allocate : compF Tryz.prog 61 Tryz.f174 = some (ic_r9_Allocate, [.c 6 true 5, .t 7]) := by kernel_rfl

theorem fn_r9_moves : Tryz.prog.funcs[r9_moves]? = some Tryz.f175 := Tryz.func175
theorem nt_r9_moves : Tryz.f175.ntmps = 31 := Tryz.ntmps175
def ic_r9_moves : IC := (.seq (.ops [.o 2 (.box t0), .o 4 (.mv (.c (.slice none 0 0)))])
  (.seq (.ops [.o 5 (.mv (.c (.slice none 0 0)))])
  (.seq (.ops [.o 6 (.mv t5), .o 7 (.fa 0 0 t2), .o 8 (.ld false 1 t7), .o 9 (.mv t1), .o 10 (.call 190 [t6, (ci 3), t8, t9]), .o 5 (.mv t10)])
  (.seq (.ops [.o 11 (.mv t5), .o 12 (.fa 1 1 t2), .o 13 (.ld false 1 t12), .o 14 (.mv t1), .o 15 (.call 190 [t11, (ci 2), t13, t14]), .o 5 (.mv t15)])
  (.seq (.ops [.o 16 (.mv t5), .o 17 (.fa 2 2 t2), .o 18 (.ld false 1 t17), .o 19 (.mv t1), .o 20 (.call 190 [t16, (ci 1), t18, t19]), .o 5 (.mv t20)])
  (.seq (.ops [.o 21 (.mv t5), .o 22 (.fa 3 3 t2), .o 23 (.ld false 1 t22), .o 24 (.mv t1), .o 25 (.call 190 [t21, (ci 4), t23, t24]), .o 5 (.mv t25)])
  (.seq (.ops [.o 26 (.mv t5), .o 27 (.fa 4 4 t2), .o 28 (.ld false 1 t27), .o 29 (.mv t1), .o 30 (.call 190 [t26, (ci 10), t28, t29]), .o 4 (.mv t30)])
  .ret)))))))
theorem hc_r9_moves : compF Tryz.prog 31 Tryz.f175 = some (ic_r9_moves, [.t 4]) := by kernel_rfl

theorem fn_r2_isDay : Tryz.prog.funcs[r2_isDay]? = some Tryz.f176 := Tryz.func176
theorem nt_r2_isDay : Tryz.f176.ntmps = 9 := Tryz.ntmps176
def ic_r2_isDay : IC := (.seq (.ops [.o 2 (.mv (.c (.bool false)))])
  (.seq (.ops [.o 3 (.mv t0), .o 4 (.bin .geq t3 (ci 1)), .o 5 (.mv t4), .og 6 5 true (.mv t0), .og 7 5 true (.bin .leq t6 (ci 3652059)), .o 8 (.pick t5 t7 (.c (.bool false))), .o 2 (.mv t8)])
  .ret))
theorem hc_r2_isDay : compF Tryz.prog 9 Tryz.f176 = some (ic_r2_isDay, [.t 2]) := by kernel_rfl

theorem fn_r2_yearLen : Tryz.prog.funcs[r2_yearLen]? = some Tryz.f177 := Tryz.func177
theorem nt_r2_yearLen : Tryz.f177.ntmps = 5 := Tryz.ntmps177
def ic_r2_yearLen : IC := (.seq (.ops [.o 2 (.mv (ci 0))])
  (.seq (.seq (.ops [.o 3 (.mv t0), .o 4 (.call 191 [t3])])
  (.cond t4
  (.seq (.ops [.o 2 (.mv (ci 366))])
  .ret)
  .skip))
  (.seq (.ops [.o 2 (.mv (ci 365))])
  .ret)))
theorem hc_r2_yearLen : compF Tryz.prog 5 Tryz.f177 = some (ic_r2_yearLen, [.t 2]) := by kernel_rfl

theorem fn_r2_lenOf : Tryz.prog.funcs[r2_lenOf]? = some Tryz.f178 := Tryz.func178
theorem nt_r2_lenOf : Tryz.f178.ntmps = 15 := Tryz.ntmps178
def ic_r2_lenOf : IC := (.seq (.ops [.o 4 (.mv (ci 0))])
  (.seq (.seq (.ops [.o 5 (.mv t1)])
  (.block 0 (.seq (.ops [.o 7 (.bin .eql t5 (ci 2)), .o 6 (.mv t7)])
  (.cond t6
  (.seq (.seq (.ops [.o 8 (.mv t0), .o 9 (.call 191 [t8])])
  (.cond t9
  (.seq (.ops [.o 4 (.mv (ci 29))])
  .ret)
  .skip))
  (.seq (.ops [.o 4 (.mv (ci 28))])
  .ret))
  (.seq (.seq (.ops [.o 11 (.bin .eql t5 (ci 4)), .o 10 (.mv t11)])
  (.cond t10
  .skip
  (.seq (.ops [.o 12 (.bin .eql t5 (ci 6)), .o 10 (.mv t12)])
  (.cond t10
  .skip
  (.seq (.ops [.o 13 (.bin .eql t5 (ci 9)), .o 10 (.mv t13)])
  (.cond t10
  .skip
  (.ops [.o 14 (.bin .eql t5 (ci 11)), .o 10 (.mv t14)])))))))
  (.cond t10
  (.seq (.ops [.o 4 (.mv (ci 30))])
  .ret)
  .skip))))))
  (.seq (.ops [.o 4 (.mv (ci 31))])
  .ret)))
theorem hc_r2_lenOf : compF Tryz.prog 15 Tryz.f178 = some (ic_r2_lenOf, [.t 4]) := by kernel_rfl

theorem fn_r2_Number : Tryz.prog.funcs[r2_Number]? = some Tryz.f179 := Tryz.func179
theorem nt_r2_Number : Tryz.f179.ntmps = 56 := Tryz.ntmps179
def ic_r2_Number : IC := (.seq (.ops [.o 1 (.box t0), .o 2 (.mv (ci 0)), .o 3 (.mv (.c (.bool false)))])
  (.seq (.seq (.dops [.o 8 (.fa 2 2 t1), .o 9 (.ld false 1 t8), .o 10 (.bin .lss t9 (ci 1)), .o 11 (.mv t10), .og 12 11 false (.fa 2 2 t1), .og 13 11 false (.ld false 1 t12), .og 14 11 false (.fa 0 0 t1), .og 15 11 false (.ld false 1 t14), .og 16 11 false (.fa 1 1 t1), .og 17 11 false (.ld false 1 t16), .og 18 11 false (.call 192 [t15, t17]), .og 19 11 false (.bin .gtr t13 t18), .o 20 (.pick t11 (.c (.bool true)) t19)])
  (.cond t20
  (.seq (.ops [.o 2 (.mv (ci 0)), .o 3 (.mv (.c (.bool false)))])
  .ret)
  .skip))
  (.seq (.ops [.o 21 (.fa 0 0 t1), .o 22 (.ld false 1 t21), .o 23 (.bin .sub t22 (ci 1)), .o 24 (.bin .quo t23 (ci 400)), .o 4 (.mv t24)])
  (.seq (.ops [.o 25 (.mv t4), .o 26 (.bin .mul t25 (ci 146097)), .o 5 (.mv t26)])
  (.seq (.seq (.ops [.o 27 (.mv t4), .o 28 (.bin .mul (ci 400) t27), .o 29 (.bin .add t28 (ci 1)), .o 6 (.mv t29)])
  (.block 0 (.loop (.seq (.seq (.ops [.o 30 (.mv t6), .o 31 (.fa 0 0 t1), .o 32 (.ld false 1 t31), .o 33 (.bin .lss t30 t32)])
  (.cond t33
  .skip
  (.exit 0)))
  (.seq (.block 1 (.ops [.o 36 (.mv t5), .o 37 (.mv t6), .o 38 (.call 177 [t37]), .o 39 (.bin .add t36 t38), .o 5 (.mv t39)]))
  (.ops [.o 34 (.mv t6), .o 35 (.bin .add t34 (ci 1)), .o 6 (.mv t35)]))))))
  (.seq (.seq (.ops [.o 7 (.mv (ci 1))])
  (.block 2 (.loop (.seq (.seq (.ops [.o 40 (.mv t7), .o 41 (.fa 1 1 t1), .o 42 (.ld false 1 t41), .o 43 (.bin .lss t40 t42)])
  (.cond t43
  .skip
  (.exit 2)))
  (.seq (.block 3 (.ops [.o 46 (.mv t5), .o 47 (.fa 0 0 t1), .o 48 (.ld false 1 t47), .o 49 (.mv t7), .o 50 (.call 178 [t48, t49]), .o 51 (.bin .add t46 t50), .o 5 (.mv t51)]))
  (.ops [.o 44 (.mv t7), .o 45 (.bin .add t44 (ci 1)), .o 7 (.mv t45)]))))))
  (.seq (.ops [.o 52 (.mv t5), .o 53 (.fa 2 2 t1), .o 54 (.ld false 1 t53), .o 55 (.bin .add t52 t54), .o 2 (.mv t55), .o 3 (.mv (.c (.bool true)))])
  .ret)))))))
theorem hc_r2_Number : compF Tryz.prog 56 Tryz.f179 = some (ic_r2_Number, [.t 2, .t 3]) := by kernel_rfl

theorem fn_r2_sought : Tryz.prog.funcs[r2_sought]? = some Tryz.f180 := Tryz.func180
theorem nt_r2_sought : Tryz.f180.ntmps = 25 := Tryz.ntmps180
def ic_r2_sought : IC := (.seq (.ops [.o 6 (.mv (ci 0)), .o 7 (.mv (.c (.bool false)))])
  (.seq (.seq (.ops [.o 8 (.mv (ci 0))])
  (.block 0 (.loop (.seq (.seq (.ops [.o 9 (.mv t8), .o 10 (.bin .leq t9 (ci 10))])
  (.cond t10
  .skip
  (.exit 0)))
  (.seq (.block 1 (.seq (.ops [.o 13 (.mv t0), .o 14 (.mv t8), .o 15 (.mv t2), .o 16 (.bin .mul t14 t15), .o 17 (.bin .add t13 t16), .o 18 (.mv t1), .o 19 (.call 193 [t17, t18])])
  (.cond t19
  (.seq (.ops [.o 20 (.mv t0), .o 21 (.mv t8), .o 22 (.mv t2), .o 23 (.bin .mul t21 t22), .o 24 (.bin .add t20 t23), .o 6 (.mv t24), .o 7 (.mv (.c (.bool true)))])
  .ret)
  .skip)))
  (.ops [.o 11 (.mv t8), .o 12 (.bin .add t11 (ci 1)), .o 8 (.mv t12)]))))))
  (.seq (.ops [.o 6 (.mv (ci 0)), .o 7 (.mv (.c (.bool false)))])
  .ret)))
theorem hc_r2_sought : compF Tryz.prog 25 Tryz.f180 = some (ic_r2_sought, [.t 6, .t 7]) := by kernel_rfl

theorem fn_r13_numbers : Tryz.prog.funcs[r13_numbers]? = some Tryz.f181 := Tryz.func181
theorem nt_r13_numbers : Tryz.f181.ntmps = 58 := Tryz.ntmps181
def ic_r13_numbers : IC := (.seq (.ops [.o 2 (.box t0), .o 3 (.box t1), .o 4 (.mv (ci 0))])
  (.seq (.ops [.o 6 (.fa 1 1 t3), .o 7 (.ld false 1 t6), .o 8 (.bin .geq t7 (ci 1)), .o 9 (.mv t8), .og 10 9 true (.fa 1 1 t3), .og 11 9 true (.ld false 1 t10), .og 12 9 true (.bin .leq t11 (ci 3652059)), .o 13 (.pick t9 t12 (.c (.bool false))), .o 5 (.mv t13)])
  (.seq (.seq (.ops [.o 14 (.fa 0 0 t3), .o 15 (.ld false 1 t14)])
  (.block 0 (.seq (.ops [.o 17 (.bin .eql t15 (ci 1)), .o 16 (.mv t17)])
  (.cond t16
  (.seq (.ops [.o 18 (.mv t5), .o 19 (.un .not t18), .o 20 (.mv t19), .og 21 20 false (.fa 2 2 t3), .og 22 20 false (.ld false 1 t21), .og 23 20 false (.bin .lss t22 (ci 0)), .o 24 (.pick t20 (.c (.bool true)) t23)])
  (.cond t24
  (.seq (.ops [.o 4 (.mv (ci 2))])
  .ret)
  .skip))
  (.seq (.ops [.o 26 (.bin .eql t15 (ci 2)), .o 25 (.mv t26)])
  (.cond t25
  (.seq (.seq (.ops [.o 27 (.fa 3 3 t3), .o 28 (.ld false 1 t27), .o 29 (.bin .lss t28 (ci 1))])
  (.cond t29
  (.seq (.ops [.o 4 (.mv (ci 4))])
  .ret)
  .skip))
  (.seq (.ops [.o 30 (.fa 2 2 t3), .o 31 (.ld false 1 t30), .o 32 (.bin .lss t31 (ci 0))])
  (.cond t32
  (.seq (.ops [.o 4 (.mv (ci 2))])
  .ret)
  .skip)))
  (.seq (.seq (.ops [.o 34 (.bin .eql t15 (ci 3)), .o 33 (.mv t34)])
  (.cond t33
  .skip
  (.ops [.o 35 (.bin .eql t15 (ci 6)), .o 33 (.mv t35)])))
  (.cond t33
  (.seq (.ops [.o 36 (.fa 3 3 t3), .o 37 (.ld false 1 t36), .o 38 (.bin .lss t37 (ci 1))])
  (.cond t38
  (.seq (.ops [.o 4 (.mv (ci 4))])
  .ret)
  .skip))
  (.seq (.ops [.o 40 (.bin .eql t15 (ci 4)), .o 39 (.mv t40)])
  (.cond t39
  (.seq (.seq (.ops [.o 41 (.mv t5), .o 42 (.un .not t41), .o 43 (.mv t42), .og 44 43 false (.fa 2 2 t3), .og 45 43 false (.ld false 1 t44), .og 46 43 false (.bin .lss t45 (ci 1)), .o 47 (.pick t43 (.c (.bool true)) t46), .o 48 (.mv t47), .og 49 48 false (.fa 2 2 t3), .og 50 48 false (.ld false 1 t49), .og 51 48 false (.fa 10 10 t2), .og 52 48 false (.ld false 1 t51), .og 53 48 false (.bin .gtr t50 t52), .o 54 (.pick t48 (.c (.bool true)) t53)])
  (.cond t54
  (.seq (.ops [.o 4 (.mv (ci 2))])
  .ret)
  .skip))
  (.seq (.ops [.o 55 (.fa 3 3 t3), .o 56 (.ld false 1 t55), .o 57 (.bin .lss t56 (ci 1))])
  (.cond t57
  (.seq (.ops [.o 4 (.mv (ci 4))])
  .ret)
  .skip)))
  .skip))))))))))
  (.seq (.ops [.o 4 (.mv (ci 0))])
  .ret))))
theorem hc_r13_numbers : compF Tryz.prog 58 Tryz.f181 = some (ic_r13_numbers, [.t 4]) := by kernel_rfl

theorem fn_r13_standing : Tryz.prog.funcs[r13_standing]? = some Tryz.f182 := Tryz.func182
theorem nt_r13_standing : Tryz.f182.ntmps = 89 := Tryz.ntmps182
def ic_r13_standing : IC := (.seq (.ops [.o 3 (.box t0), .o 4 (.box t1), .o 5 (.box t2), .o 6 (.mv (ci 0))])
  (.seq (.seq (.ops [.o 7 (.fa 0 0 t4), .o 8 (.ld false 1 t7), .o 9 (.bin .eql t8 (ci 8)), .o 10 (.mv t9), .og 11 10 false (.fa 0 0 t4), .og 12 10 false (.ld false 1 t11), .og 13 10 false (.bin .eql t12 (ci 9)), .o 14 (.pick t10 (.c (.bool true)) t13)])
  (.cond t14
  (.seq (.ops [.o 6 (.mv (ci 130))])
  .ret)
  .skip))
  (.seq (.seq (.ops [.o 15 (.fa 0 0 t5), .o 16 (.ld false 1 t15), .o 17 (.bin .eql t16 (ci 4)), .o 18 (.mv t17), .og 19 18 false (.fa 0 0 t5), .og 20 18 false (.ld false 1 t19), .og 21 18 false (.bin .eql t20 (ci 5)), .o 22 (.pick t18 (.c (.bool true)) t21), .o 23 (.mv t22), .og 24 23 false (.fa 0 0 t5), .og 25 23 false (.ld false 1 t24), .og 26 23 false (.bin .eql t25 (ci 6)), .o 27 (.pick t23 (.c (.bool true)) t26), .o 28 (.mv t27), .og 29 28 true (.ld true 15 t4), .og 30 28 true (.call 169 [t29]), .og 31 28 true (.un .not t30), .o 32 (.pick t28 t31 (.c (.bool false)))])
  (.cond t32
  (.seq (.ops [.o 6 (.mv (ci 131))])
  .ret)
  .skip))
  (.seq (.seq (.ops [.o 33 (.fa 0 0 t5), .o 34 (.ld false 1 t33), .o 35 (.bin .eql t34 (ci 4)), .o 36 (.mv t35), .og 37 36 false (.fa 0 0 t5), .og 38 36 false (.ld false 1 t37), .og 39 36 false (.bin .eql t38 (ci 6)), .o 40 (.pick t36 (.c (.bool true)) t39), .o 41 (.mv t40), .og 42 41 true (.fa 0 0 t4), .og 43 41 true (.ld false 1 t42), .og 44 41 true (.bin .eql t43 (ci 4)), .o 45 (.pick t41 t44 (.c (.bool false)))])
  (.cond t45
  (.seq (.ops [.o 6 (.mv (ci 132))])
  .ret)
  .skip))
  (.seq (.seq (.ops [.o 46 (.fa 0 0 t5), .o 47 (.ld false 1 t46), .o 48 (.bin .eql t47 (ci 4)), .o 49 (.mv t48), .og 50 49 true (.fa 5 5 t4), .og 51 49 true (.ld false 1 t50), .og 52 49 true (.fa 9 9 t3), .og 53 49 true (.ld false 1 t52), .og 54 49 true (.bin .geq t51 t53), .o 55 (.pick t49 t54 (.c (.bool false)))])
  (.cond t55
  (.seq (.ops [.o 6 (.mv (ci 133))])
  .ret)
  .skip))
  (.seq (.seq (.ops [.o 56 (.fa 0 0 t5), .o 57 (.ld false 1 t56), .o 58 (.bin .eql t57 (ci 5)), .o 59 (.mv t58), .og 60 59 true (.fa 12 12 t4), .og 61 59 true (.ld false 1 t60), .og 62 59 true (.fa 11 11 t3), .og 63 59 true (.ld false 1 t62), .og 64 59 true (.bin .geq t61 t63), .o 65 (.pick t59 t64 (.c (.bool false)))])
  (.cond t65
  (.seq (.ops [.o 6 (.mv (ci 133))])
  .ret)
  .skip))
  (.seq (.seq (.ops [.o 66 (.fa 0 0 t5), .o 67 (.ld false 1 t66), .o 68 (.bin .eql t67 (ci 6)), .o 69 (.mv t68), .og 70 69 true (.fa 13 13 t4), .og 71 69 true (.ld false 1 t70), .og 72 69 true (.fa 3 3 t5), .og 73 69 true (.ld false 1 t72), .og 74 69 true (.fa 7 7 t3), .og 75 69 true (.ld false 1 t74), .og 76 69 true (.call 194 [t71, t73, t75]), .og 77 69 true (.un .not t76), .og 78 69 true (.mv t77), .og 79 78 false (.fa 14 14 t4), .og 80 78 false (.ld false 1 t79), .og 81 78 false (.fa 3 3 t5), .og 82 78 false (.ld false 1 t81), .og 83 78 false (.fa 8 8 t3), .og 84 78 false (.ld false 1 t83), .og 85 78 false (.call 194 [t80, t82, t84]), .og 86 78 false (.un .not t85), .og 87 69 true (.pick t78 (.c (.bool true)) t86), .o 88 (.pick t69 t87 (.c (.bool false)))])
  (.cond t88
  (.seq (.ops [.o 6 (.mv (ci 133))])
  .ret)
  .skip))
  (.seq (.ops [.o 6 (.mv (ci 0))])
  .ret))))))))
theorem hc_r13_standing : compF Tryz.prog 89 Tryz.f182 = some (ic_r13_standing, [.t 6]) := by kernel_rfl

theorem fn_r13_taken : Tryz.prog.funcs[r13_taken]? = some Tryz.f183 := Tryz.func183
theorem nt_r13_taken : Tryz.f183.ntmps = 92 := Tryz.ntmps183
def ic_r13_taken : IC := (.seq (.ops [.o 3 (.box t0), .o 4 (.box t1), .o 5 (.box t2), .o 6 (.alloc (.st (zc (zf (zc (zc (zc (zc (zc (zc (zc (zc (zc (zc (zc (zc (zc .nil))))))))))))))))), .o 7 (.mv (.c (.slice none 0 0)))])
  (.seq (.seq (.ops [.o 9 (.fa 0 0 t5), .o 10 (.ld false 1 t9)])
  (.block 0 (.seq (.ops [.o 12 (.bin .eql t10 (ci 1)), .o 11 (.mv t12)])
  (.cond t11
  (.seq (.ops [.o 13 (.ld true 18 t3), .o 14 (.ld true 15 t4), .o 15 (.ld true 4 t5), .o 16 (.call 195 [t13, t14, t15]), .o 17 (.ext 0 t16), .o 18 (.ext 1 t16), .n (.sto 15 t6 t17), .o 7 (.mv t18)])
  .ret)
  (.seq (.ops [.o 20 (.bin .eql t10 (ci 2)), .o 19 (.mv t20)])
  (.cond t19
  (.seq (.ops [.o 21 (.ld true 15 t4), .o 22 (.ld true 4 t5), .o 23 (.call 196 [t21, t22]), .o 24 (.ext 0 t23), .o 25 (.ext 1 t23), .n (.sto 15 t6 t24), .o 7 (.mv t25)])
  .ret)
  (.seq (.ops [.o 27 (.bin .eql t10 (ci 3)), .o 26 (.mv t27)])
  (.cond t26
  (.seq (.ops [.o 28 (.ld true 15 t4), .o 29 (.ld true 4 t5), .o 30 (.call 197 [t28, t29]), .n (.sto 15 t6 t30), .o 7 (.mv (.c (.slice none 0 0)))])
  .ret)
  (.seq (.ops [.o 32 (.bin .eql t10 (ci 4)), .o 31 (.mv t32)])
  (.cond t31
  (.seq (.ops [.o 33 (.fa 5 5 t4), .o 34 (.ld false 1 t33), .o 35 (.bin .add t34 (ci 1)), .o 36 (.fa 5 5 t4), .n (.sto 1 t36 t35)])
  (.seq (.ops [.o 37 (.fa 1 1 t5), .o 38 (.ld false 1 t37), .o 39 (.fa 2 2 t5), .o 40 (.ld false 1 t39), .o 41 (.bin .add t38 t40), .o 42 (.fa 6 6 t4), .n (.sto 1 t42 t41)])
  (.seq (.ops [.o 43 (.fa 3 3 t5), .o 44 (.ld false 1 t43), .o 45 (.fa 7 7 t4), .n (.sto 1 t45 t44)])
  (.seq (.ops [.o 46 (.fa 8 8 t4), .n (.sto 1 t46 (ci 0))])
  (.seq (.ops [.o 47 (.fa 4 4 t4), .o 48 (.ld false 1 t47), .o 49 (.fa 2 2 t5), .o 50 (.ld false 1 t49), .o 51 (.bin .add t48 t50), .o 52 (.fa 4 4 t4), .n (.sto 1 t52 t51)])
  (.seq (.ops [.o 53 (.fa 0 0 t4), .n (.sto 1 t53 (ci 4))])
  (.seq (.ops [.o 54 (.ld true 15 t4), .n (.sto 15 t6 t54), .o 7 (.mv (.c (.slice none 0 0)))])
  .ret)))))))
  (.seq (.ops [.o 56 (.bin .eql t10 (ci 5)), .o 55 (.mv t56)])
  (.cond t55
  (.seq (.ops [.o 57 (.fa 12 12 t4), .o 58 (.ld false 1 t57), .o 59 (.bin .add t58 (ci 1)), .o 60 (.fa 12 12 t4), .n (.sto 1 t60 t59)])
  (.seq (.ops [.o 61 (.ld true 15 t4), .o 62 (.call 198 [t61, (ci 7)]), .o 63 (.bsl 1 3 zi [(0, 0, 1, (ci 7))]), .n (.sto 15 t6 t62), .o 7 (.mv t63)])
  .ret))
  (.seq (.ops [.o 65 (.bin .eql t10 (ci 6)), .o 64 (.mv t65)])
  (.cond t64
  (.seq (.ops [.o 66 (.fa 13 13 t4), .o 67 (.ld false 1 t66), .o 68 (.fa 3 3 t5), .o 69 (.ld false 1 t68), .o 70 (.bin .add t67 t69), .o 71 (.fa 13 13 t4), .n (.sto 1 t71 t70)])
  (.seq (.ops [.o 72 (.fa 14 14 t4), .o 73 (.ld false 1 t72), .o 74 (.fa 3 3 t5), .o 75 (.ld false 1 t74), .o 76 (.bin .add t73 t75), .o 77 (.fa 14 14 t4), .n (.sto 1 t77 t76)])
  (.seq (.ops [.o 78 (.ld true 15 t4), .n (.sto 15 t6 t78), .o 7 (.mv (.c (.slice none 0 0)))])
  .ret)))
  .skip))))))))))))))
  (.seq (.ops [.o 8 (.mv (.c (.slice none 0 0)))])
  (.seq (.seq (.ops [.o 79 (.ld true 15 t4), .o 80 (.call 169 [t79])])
  (.cond t80
  (.seq (.ops [.o 81 (.ld true 15 t4), .o 82 (.call 199 [t81]), .n (.sto 15 t4 t82)])
  (.ops [.o 83 (.mv t8), .o 84 (.bsl 1 3 zi [(0, 0, 1, (ci 6))]), .o 85 (.app 1 8 3 t83 t84), .o 8 (.mv t85)]))
  .skip))
  (.seq (.ops [.o 86 (.fa 0 0 t4), .n (.sto 1 t86 (ci 9))])
  (.seq (.ops [.o 87 (.mv t8), .o 88 (.bsl 1 3 zi [(0, 0, 1, (ci 8))]), .o 89 (.app 1 8 3 t87 t88), .o 8 (.mv t89)])
  (.seq (.ops [.o 90 (.ld true 15 t4), .o 91 (.mv t8), .n (.sto 15 t6 t90), .o 7 (.mv t91)])
  .ret)))))))
theorem hc_r13_taken : compF Tryz.prog 92 Tryz.f183 = some (ic_r13_taken, [.c 6 true 15, .t 7]) := by kernel_rfl

theorem fn_r14_given : Tryz.prog.funcs[r14_given]? = some Tryz.f184 := Tryz.func184
theorem nt_r14_given : Tryz.f184.ntmps = 55 := Tryz.ntmps184
def ic_r14_given : IC := (.seq (.ops [.o 1 (.box t0), .o 2 (.alloc (.st (.cons (.st (zc (zc (zc (zc (zc (zc (zc (zc (zc (zc (zc (zc (zc (zc (zc (zc (zc (.cons zs .nil))))))))))))))))))) (.cons (.st (zc (.cons (.st (zc (zc (zc (zc (zc (zc .nil))))))) (.cons zs (.cons (.st (.cons (.arr 12 1 fun _ => zi) .nil)) (.cons (.st (zc (zf (zc (zc (zc (zc (zc (zc (zc (zc (zc (zc (zc (zc (zc .nil)))))))))))))))) (zc (zc (zc (.cons (.st (zc (zc (zc (zc (zc .nil)))))) (zf (zc (zc .nil))))))))))))) (.cons (.st (zc (zc (zc (zc (zc .nil)))))) (.cons zs (zc .nil)))))))])
  (.seq (.ops [.o 7 (.fa 1 18 t1), .o 8 (.ld true 46 t7), .o 9 (.call 149 [t8]), .o 3 (.alloc (.st (zc (zc (zc .nil))))), .n (.sto 3 t3 t9)])
  (.seq (.ops [.o 10 (.fa 1 18 t1), .o 11 (.ld true 46 t10), .o 12 (.call 46 [t11, (ci 5)]), .o 4 (.mv t12)])
  (.seq (.ops [.o 13 (.mv t4), .o 5 (.mv t13)])
  (.seq (.seq (.ops [.o 14 (.fa 1 1 t3), .o 15 (.ld false 1 t14), .o 16 (.mv t5), .o 17 (.bin .lss t15 t16)])
  (.cond t17
  (.ops [.o 18 (.fa 1 1 t3), .o 19 (.ld false 1 t18), .o 5 (.mv t19)])
  .skip))
  (.seq (.ops [.o 20 (.ld true 3 t3), .o 21 (.call 150 [t20]), .o 22 (.fa 1 18 t1), .o 23 (.fa 10 44 t22), .n (.sto 1 t23 t21)])
  (.seq (.ops [.o 6 (.mv (.c (.slice none 0 0)))])
  (.seq (.ops [.o 24 (.mv t6), .o 25 (.mv t5), .o 26 (.call 90 [t24, (ci 5), (ci 2), t25]), .o 6 (.mv t26)])
  (.seq (.ops [.o 27 (.mv t6), .o 28 (.mv t4), .o 29 (.mv t5), .o 30 (.bin .sub t28 t29), .o 31 (.call 90 [t27, (ci 5), (ci 7), t30]), .o 6 (.mv t31)])
  (.seq (.ops [.o 32 (.mv t6), .o 33 (.fa 2 2 t3), .o 34 (.ld false 1 t33), .o 35 (.call 90 [t32, (ci 9), (ci 1), t34]), .o 6 (.mv t35)])
  (.seq (.ops [.o 36 (.mv t6), .o 37 (.fa 1 1 t3), .o 38 (.ld false 1 t37), .o 39 (.mv t5), .o 40 (.bin .sub t38 t39), .o 41 (.call 90 [t36, (ci 9), (ci 2), t40]), .o 6 (.mv t41)])
  (.seq (.ops [.o 42 (.mv t6), .o 43 (.fa 0 0 t3), .o 44 (.ld false 1 t43), .o 45 (.call 90 [t42, (ci 9), (ci 3), t44]), .o 6 (.mv t45)])
  (.seq (.ops [.o 46 (.ld true 71 t1), .o 47 (.mv t6), .o 48 (.call 89 [t46, t47]), .n (.sto 71 t1 t48)])
  (.seq (.dops [.o 49 (.ld true 71 t1), .o 50 (.call 147 [t49]), .o 51 (.fa 1 18 t1), .o 52 (.fa 10 44 t51), .o 53 (.ld false 1 t52), .o 54 (.call 148 [t50, (ci 4), t53]), .n (.sto 71 t2 t54)])
  .ret))))))))))))))
theorem hc_r14_given : compF Tryz.prog 55 Tryz.f184 = some (ic_r14_given, [.c 2 true 71]) := by kernel_rfl

theorem fn_r12_good : Tryz.prog.funcs[r12_good]? = some Tryz.f185 := Tryz.func185
theorem nt_r12_good : Tryz.f185.ntmps = 12 := Tryz.ntmps185
def ic_r12_good : IC := (.seq (.ops [.o 1 (.box t0), .o 2 (.mv (.c (.bool false)))])
  (.seq (.ops [.o 6 (.ld true 18 t1), .o 7 (.call 17 [t6]), .o 5 (.mv t7), .o 8 (.ext 0 t5), .o 9 (.ext 1 t5), .o 3 (.mv t8), .o 4 (.mv t9)])
  (.seq (.ops [.o 10 (.mv t3), .o 11 (.bin .eql t10 (ci 0)), .o 2 (.mv t11)])
  .ret)))
theorem hc_r12_good : compF Tryz.prog 12 Tryz.f185 = some (ic_r12_good, [.t 2]) := by kernel_rfl

theorem fn_r12_LateFee : Tryz.prog.funcs[r12_LateFee]? = some Tryz.f186 := Tryz.func186
theorem nt_r12_LateFee : Tryz.f186.ntmps = 34 := Tryz.ntmps186
def ic_r12_LateFee : IC := (.seq (.ops [.o 2 (.box t0), .o 4 (.mv (ci 0))])
  (.seq (.seq (.ops [.o 7 (.ld true 18 t2), .o 8 (.call 185 [t7]), .o 9 (.un .not t8), .o 10 (.mv t9), .og 11 10 false (.mv t1), .og 12 10 false (.bin .lss t11 (ci 0)), .o 13 (.pick t10 (.c (.bool true)) t12)])
  (.cond t13
  (.seq (.ops [.o 4 (.mv (ci 0))])
  .ret)
  .skip))
  (.seq (.ops [.o 15 (.mv t1), .o 16 (.fa 4 4 t2), .o 17 (.ld false 1 t16), .o 18 (.call 27 [t15, t17]), .o 14 (.mv t18), .o 19 (.ext 0 t14), .o 20 (.ext 1 t14), .o 5 (.mv t19), .o 6 (.mv t20)])
  (.seq (.seq (.ops [.o 21 (.mv t5), .o 22 (.fa 5 5 t2), .o 23 (.ld false 1 t22), .o 24 (.bin .lss t21 t23)])
  (.cond t24
  (.seq (.ops [.o 25 (.fa 5 5 t2), .o 26 (.ld false 1 t25), .o 4 (.mv t26)])
  .ret)
  .skip))
  (.seq (.seq (.ops [.o 27 (.mv t5), .o 28 (.fa 6 6 t2), .o 29 (.ld false 1 t28), .o 30 (.bin .gtr t27 t29)])
  (.cond t30
  (.seq (.ops [.o 31 (.fa 6 6 t2), .o 32 (.ld false 1 t31), .o 4 (.mv t32)])
  .ret)
  .skip))
  (.seq (.ops [.o 33 (.mv t5), .o 4 (.mv t33)])
  .ret))))))
theorem hc_r12_LateFee : compF Tryz.prog 34 Tryz.f186 = some (ic_r12_LateFee, [.t 4]) := by kernel_rfl

theorem fn_r12_room : Tryz.prog.funcs[r12_room]? = some Tryz.f187 := Tryz.func187
theorem nt_r12_room : Tryz.f187.ntmps = 14 := Tryz.ntmps187
def ic_r12_room : IC := (.seq (.ops [.o 4 (.mv (ci 0))])
  (.seq (.seq (.ops [.o 5 (.mv t1), .o 6 (.bin .leq t5 (ci 0))])
  (.cond t6
  (.seq (.ops [.o 7 (.mv t0), .o 4 (.mv t7)])
  .ret)
  .skip))
  (.seq (.seq (.ops [.o 8 (.mv t1), .o 9 (.mv t0), .o 10 (.bin .geq t8 t9)])
  (.cond t10
  (.seq (.ops [.o 4 (.mv (ci 0))])
  .ret)
  .skip))
  (.seq (.ops [.o 11 (.mv t0), .o 12 (.mv t1), .o 13 (.bin .sub t11 t12), .o 4 (.mv t13)])
  .ret))))
theorem hc_r12_room : compF Tryz.prog 14 Tryz.f187 = some (ic_r12_room, [.t 4]) := by kernel_rfl

theorem fn_r9_Turn : Tryz.prog.funcs[r9_Turn]? = some Tryz.f188 := Tryz.func188
theorem nt_r9_Turn : Tryz.f188.ntmps = 29 := Tryz.ntmps188
def ic_r9_Turn : IC := (.seq (.ops [.o 4 (.mv (ci 0))])
  (.seq (.ops [.o 5 (.mv (ci 0))])
  (.seq (.seq (.ops [.o 7 (.mv t0)])
  (.block 0 (.seq (.ops [.o 9 (.bin .eql t7 (ci 0)), .o 8 (.mv t9)])
  (.cond t8
  (.ops [.o 5 (.mv (ci 321))])
  (.seq (.ops [.o 11 (.bin .eql t7 (ci 1)), .o 10 (.mv t11)])
  (.cond t10
  (.ops [.o 5 (.mv (ci 312))])
  (.seq (.ops [.o 13 (.bin .eql t7 (ci 2)), .o 12 (.mv t13)])
  (.cond t12
  (.ops [.o 5 (.mv (ci 231))])
  (.seq (.ops [.o 15 (.bin .eql t7 (ci 3)), .o 14 (.mv t15)])
  (.cond t14
  (.ops [.o 5 (.mv (ci 213))])
  (.seq (.ops [.o 17 (.bin .eql t7 (ci 4)), .o 16 (.mv t17)])
  (.cond t16
  (.ops [.o 5 (.mv (ci 132))])
  (.seq (.ops [.o 19 (.bin .eql t7 (ci 5)), .o 18 (.mv t19)])
  (.cond t18
  (.ops [.o 5 (.mv (ci 123))])
  (.seq (.ops [.o 4 (.mv (ci (-1)))])
  .ret)))))))))))))))
  (.seq (.seq (.ops [.o 20 (.mv t1), .o 6 (.mv t20)])
  (.block 1 (.loop (.seq (.seq (.ops [.o 21 (.mv t6), .o 22 (.bin .lss t21 (ci 2))])
  (.cond t22
  .skip
  (.exit 1)))
  (.seq (.block 2 (.ops [.o 25 (.mv t5), .o 26 (.bin .quo t25 (ci 10)), .o 5 (.mv t26)]))
  (.ops [.o 23 (.mv t6), .o 24 (.bin .add t23 (ci 1)), .o 6 (.mv t24)]))))))
  (.seq (.ops [.o 27 (.mv t5), .o 28 (.bin .rem t27 (ci 10)), .o 4 (.mv t28)])
  .ret)))))
theorem hc_r9_Turn : compF Tryz.prog 29 Tryz.f188 = some (ic_r9_Turn, [.t 4]) := by kernel_rfl

theorem fn_r9_part : Tryz.prog.funcs[r9_part]? = some Tryz.f189 := Tryz.func189
theorem nt_r9_part : Tryz.f189.ntmps = 46 := Tryz.ntmps189
def ic_r9_part : IC := (.seq (.ops [.o 5 (.box t1), .o 8 (.mv (ci 0))])
  (.seq (.ops [.o 12 (.mv t2), .o 9 (.mv t12)])
  (.seq (.seq (.ops [.o 10 (.mv (ci 0))])
  (.block 0 (.loop (.seq (.seq (.ops [.o 13 (.mv t10), .o 14 (.mv t3), .o 15 (.bin .lss t13 t14)])
  (.cond t15
  .skip
  (.exit 0)))
  (.seq (.block 1 (.seq (.dops [.o 18 (.ld true 3 t5), .o 19 (.mv t0), .o 20 (.mv t10), .o 21 (.call 188 [t19, t20]), .o 22 (.call 200 [t18, t21]), .o 11 (.mv t22)])
  (.seq (.seq (.ops [.o 23 (.mv t11), .o 24 (.mv t9), .o 25 (.bin .geq t23 t24)])
  (.cond t25
  (.seq (.ops [.o 8 (.mv (ci 0))])
  .ret)
  .skip))
  (.ops [.o 26 (.mv t9), .o 27 (.mv t11), .o 28 (.bin .sub t26 t27), .o 9 (.mv t28)]))))
  (.ops [.o 16 (.mv t10), .o 17 (.bin .add t16 (ci 1)), .o 10 (.mv t17)]))))))
  (.seq (.seq (.dops [.o 29 (.mv t3), .o 30 (.bin .eql t29 (ci 3)), .o 31 (.mv t30), .og 32 31 false (.mv t9), .og 33 31 false (.ld true 3 t5), .og 34 31 false (.mv t0), .og 35 31 false (.mv t3), .og 36 31 false (.call 188 [t34, t35]), .og 37 31 false (.call 200 [t33, t36]), .og 38 31 false (.bin .lss t32 t37), .o 39 (.pick t31 (.c (.bool true)) t38)])
  (.cond t39
  (.seq (.ops [.o 40 (.mv t9), .o 8 (.mv t40)])
  .ret)
  .skip))
  (.seq (.dops [.o 41 (.ld true 3 t5), .o 42 (.mv t0), .o 43 (.mv t3), .o 44 (.call 188 [t42, t43]), .o 45 (.call 200 [t41, t44]), .o 8 (.mv t45)])
  .ret)))))
theorem hc_r9_part : compF Tryz.prog 46 Tryz.f189 = some (ic_r9_part, [.t 8]) := by kernel_rfl

theorem fn_r9_with : Tryz.prog.funcs[r9_with]? = some Tryz.f190 := Tryz.func190
theorem nt_r9_with : Tryz.f190.ntmps = 24 := Tryz.ntmps190
def ic_r9_with : IC := (.seq (.ops [.o 8 (.mv (.c (.slice none 0 0)))])
  (.seq (.seq (.ops [.o 10 (.mv t2), .o 11 (.bin .leq t10 (ci 0))])
  (.cond t11
  (.seq (.ops [.o 12 (.mv t0), .o 8 (.mv t12)])
  .ret)
  .skip))
  (.seq (.ops [.o 13 (.mv t1), .o 14 (.mv t2), .o 15 (.build (.st (zc (zc (zc .nil)))) [(0, 0, 1, (ci 0)), (1, 1, 1, t13), (2, 2, 1, t14)]), .o 9 (.alloc (.st (zc (zc (zc .nil))))), .n (.sto 3 t9 t15)])
  (.seq (.seq (.ops [.o 16 (.mv t3)])
  (.cond t16
  (.ops [.o 17 (.mv t1), .o 18 (.mv t2), .o 19 (.build (.st (zc (zc (zc .nil)))) [(0, 0, 1, t17), (1, 1, 1, (ci 0)), (2, 2, 1, t18)]), .n (.sto 3 t9 t19)])
  .skip))
  (.seq (.ops [.o 20 (.mv t0), .o 21 (.ld true 3 t9), .o 22 (.bsl 3 183 (.st (zc (zc (zc .nil)))) [(0, 0, 3, t21)]), .o 23 (.app 3 24 183 t20 t22), .o 8 (.mv t23)])
  .ret)))))
theorem hc_r9_with : compF Tryz.prog 24 Tryz.f190 = some (ic_r9_with, [.t 8]) := by kernel_rfl

theorem fn_r2_divides : Tryz.prog.funcs[r2_divides]? = some Tryz.f191 := Tryz.func191
theorem nt_r2_divides : Tryz.f191.ntmps = 16 := Tryz.ntmps191
def ic_r2_divides : IC := (.seq (.ops [.o 2 (.mv (.c (.bool false)))])
  (.seq (.ops [.o 3 (.mv t0), .o 4 (.bin .rem t3 (ci 4)), .o 5 (.bin .eql t4 (ci 0)), .o 6 (.mv t5), .og 7 6 true (.mv t0), .og 8 6 true (.bin .rem t7 (ci 100)), .og 9 6 true (.bin .neq t8 (ci 0)), .og 10 6 true (.mv t9), .og 11 10 false (.mv t0), .og 12 10 false (.bin .rem t11 (ci 400)), .og 13 10 false (.bin .eql t12 (ci 0)), .og 14 6 true (.pick t10 (.c (.bool true)) t13), .o 15 (.pick t6 t14 (.c (.bool false))), .o 2 (.mv t15)])
  .ret))
theorem hc_r2_divides : compF Tryz.prog 16 Tryz.f191 = some (ic_r2_divides, [.t 2]) := by kernel_rfl

theorem fn_r2_MonthLen : Tryz.prog.funcs[r2_MonthLen]? = some Tryz.f192 := Tryz.func192
theorem nt_r2_MonthLen : Tryz.f192.ntmps = 22 := Tryz.ntmps192
def ic_r2_MonthLen : IC := (.seq (.ops [.o 4 (.mv (ci 0))])
  (.seq (.seq (.ops [.o 5 (.mv t0), .o 6 (.bin .lss t5 (ci 1)), .o 7 (.mv t6), .og 8 7 false (.mv t0), .og 9 7 false (.bin .gtr t8 (ci 9999)), .o 10 (.pick t7 (.c (.bool true)) t9), .o 11 (.mv t10), .og 12 11 false (.mv t1), .og 13 11 false (.bin .lss t12 (ci 1)), .o 14 (.pick t11 (.c (.bool true)) t13), .o 15 (.mv t14), .og 16 15 false (.mv t1), .og 17 15 false (.bin .gtr t16 (ci 12)), .o 18 (.pick t15 (.c (.bool true)) t17)])
  (.cond t18
  (.seq (.ops [.o 4 (.mv (ci 0))])
  .ret)
  .skip))
  (.seq (.ops [.o 19 (.mv t0), .o 20 (.mv t1), .o 21 (.call 178 [t19, t20]), .o 4 (.mv t21)])
  .ret)))
theorem hc_r2_MonthLen : compF Tryz.prog 22 Tryz.f192 = some (ic_r2_MonthLen, [.t 4]) := by kernel_rfl

theorem fn_r2_Business : Tryz.prog.funcs[r2_Business]? = some Tryz.f193 := Tryz.func193
theorem nt_r2_Business : Tryz.f193.ntmps = 31 := Tryz.ntmps193
def ic_r2_Business : IC := (.seq (.ops [.o 4 (.mv (.c (.bool false)))])
  (.seq (.ops [.o 9 (.mv t0), .o 10 (.call 201 [t9]), .o 8 (.mv t10), .o 11 (.ext 0 t8), .o 12 (.ext 1 t8), .o 5 (.mv t11), .o 6 (.mv t12)])
  (.seq (.seq (.ops [.o 13 (.mv t6), .o 14 (.un .not t13), .o 15 (.mv t14), .og 16 15 false (.mv t5), .og 17 15 false (.bin .gtr t16 (ci 5)), .o 18 (.pick t15 (.c (.bool true)) t17)])
  (.cond t18
  (.seq (.ops [.o 4 (.mv (.c (.bool false)))])
  .ret)
  .skip))
  (.seq (.seq (.ops [.o 7 (.mv (ci 0))])
  (.block 0 (.loop (.seq (.seq (.ops [.o 19 (.mv t7), .o 20 (.mv t1), .o 21 (.len t20), .o 22 (.bin .lss t19 t21)])
  (.cond t22
  .skip
  (.exit 0)))
  (.seq (.block 1 (.seq (.ops [.o 25 (.mv t1), .o 26 (.mv t7), .o 27 (.ixs 1 t25 t26), .o 28 (.ld false 1 t27), .o 29 (.mv t0), .o 30 (.bin .eql t28 t29)])
  (.cond t30
  (.seq (.ops [.o 4 (.mv (.c (.bool false)))])
  .ret)
  .skip)))
  (.ops [.o 23 (.mv t7), .o 24 (.bin .add t23 (ci 1)), .o 7 (.mv t24)]))))))
  (.seq (.ops [.o 4 (.mv (.c (.bool true)))])
  .ret)))))
theorem hc_r2_Business : compF Tryz.prog 31 Tryz.f193 = some (ic_r2_Business, [.t 4]) := by kernel_rfl

theorem fn_r13_fits : Tryz.prog.funcs[r13_fits]? = some Tryz.f194 := Tryz.func194
theorem nt_r13_fits : Tryz.f194.ntmps = 17 := Tryz.ntmps194
def ic_r13_fits : IC := (.seq (.ops [.o 6 (.mv (.c (.bool false)))])
  (.seq (.ops [.o 7 (.mv t0), .o 8 (.mv t2), .o 9 (.bin .leq t7 t8), .o 10 (.mv t9), .og 11 10 true (.mv t1), .og 12 10 true (.mv t2), .og 13 10 true (.mv t0), .og 14 10 true (.bin .sub t12 t13), .og 15 10 true (.bin .leq t11 t14), .o 16 (.pick t10 t15 (.c (.bool false))), .o 6 (.mv t16)])
  .ret))
theorem hc_r13_fits : compF Tryz.prog 17 Tryz.f194 = some (ic_r13_fits, [.t 6]) := by kernel_rfl

theorem fn_r13_age : Tryz.prog.funcs[r13_age]? = some Tryz.f195 := Tryz.func195
theorem nt_r13_age : Tryz.f195.ntmps = 95 := Tryz.ntmps195
def ic_r13_age : IC := (.seq (.ops [.o 3 (.box t0), .o 4 (.box t1), .o 5 (.box t2), .o 6 (.alloc (.st (zc (zf (zc (zc (zc (zc (zc (zc (zc (zc (zc (zc (zc (zc (zc .nil))))))))))))))))), .o 7 (.mv (.c (.slice none 0 0)))])
  (.seq (.ops [.o 8 (.mv (.c (.slice none 0 0)))])
  (.seq (.seq (.ops [.o 11 (.fa 0 0 t4), .o 12 (.ld false 1 t11), .o 13 (.bin .eql t12 (ci 4)), .o 14 (.mv t13), .og 15 14 true (.fa 1 1 t5), .og 16 14 true (.ld false 1 t15), .og 17 14 true (.fa 6 6 t4), .og 18 14 true (.ld false 1 t17), .og 19 14 true (.bin .gtr t16 t18), .o 20 (.pick t14 t19 (.c (.bool false)))])
  (.cond t20
  (.seq (.ops [.o 21 (.fa 10 10 t4), .o 22 (.ld false 1 t21), .o 23 (.bin .add t22 (ci 1)), .o 24 (.fa 10 10 t4), .n (.sto 1 t24 t23)])
  (.seq (.ops [.o 25 (.ld true 15 t4), .o 26 (.call 202 [t25]), .n (.sto 15 t4 t26)])
  (.ops [.o 27 (.mv t8), .o 28 (.bsl 1 3 zi [(0, 0, 1, (ci 1))]), .o 29 (.app 1 8 3 t27 t28), .o 8 (.mv t29)])))
  .skip))
  (.seq (.seq (.ops [.o 30 (.ld true 15 t4), .o 31 (.call 169 [t30]), .o 32 (.mv t31), .og 33 32 true (.fa 2 2 t5), .og 34 32 true (.ld false 1 t33), .og 35 32 true (.bin .eql t34 (ci 0)), .o 36 (.pick t32 t35 (.c (.bool false)))])
  (.cond t36
  (.seq (.ops [.o 37 (.mv t8), .o 38 (.bsl 1 3 zi [(0, 0, 1, (ci 6))]), .o 39 (.app 1 8 3 t37 t38), .o 8 (.mv t39)])
  (.seq (.ops [.o 40 (.ld true 15 t4), .o 41 (.call 199 [t40]), .o 42 (.mv t8), .n (.sto 15 t6 t41), .o 7 (.mv t42)])
  .ret))
  .skip))
  (.seq (.seq (.ops [.o 43 (.ld true 15 t4), .o 44 (.call 169 [t43]), .o 45 (.un .not t44)])
  (.cond t45
  (.seq (.ops [.o 47 (.ld true 18 t3), .o 48 (.ld true 15 t4), .o 49 (.ld true 4 t5), .o 50 (.call 203 [t47, t48, t49]), .o 46 (.mv t50), .o 51 (.ext 0 t46), .o 52 (.ext 1 t46), .o 9 (.alloc (.st (zc (zf (zc (zc (zc (zc (zc (zc (zc (zc (zc (zc (zc (zc (zc .nil))))))))))))))))), .n (.sto 15 t9 t51), .o 10 (.mv t52)])
  (.seq (.ops [.o 53 (.ld true 15 t9), .n (.sto 15 t4 t53)])
  (.ops [.o 54 (.mv t8), .o 55 (.mv t10), .o 56 (.app 1 8 3 t54 t55), .o 8 (.mv t56)])))
  .skip))
  (.seq (.seq (.ops [.o 57 (.ld true 15 t4), .o 58 (.call 169 [t57]), .o 59 (.mv t58), .og 60 59 true (.fa 1 1 t4), .og 61 59 true (.ld false 1 t60), .og 62 59 true (.un .not t61), .o 63 (.pick t59 t62 (.c (.bool false))), .o 64 (.mv t63), .og 65 64 true (.fa 2 2 t5), .og 66 64 true (.ld false 1 t65), .og 67 64 true (.fa 2 2 t3), .og 68 64 true (.ld false 1 t67), .og 69 64 true (.bin .geq t66 t68), .o 70 (.pick t64 t69 (.c (.bool false)))])
  (.cond t70
  (.seq (.ops [.o 71 (.fa 1 1 t4), .n (.sto 1 t71 (.c (.bool true)))])
  (.seq (.seq (.ops [.o 72 (.fa 0 0 t4), .o 73 (.ld false 1 t72), .o 74 (.bin .eql t73 (ci 3))])
  (.cond t74
  (.ops [.o 75 (.fa 0 0 t4), .n (.sto 1 t75 (ci 5))])
  .skip))
  (.ops [.o 76 (.mv t8), .o 77 (.bsl 1 3 zi [(0, 0, 1, (ci 3))]), .o 78 (.app 1 8 3 t76 t77), .o 8 (.mv t78)])))
  .skip))
  (.seq (.seq (.ops [.o 79 (.ld true 15 t4), .o 80 (.call 169 [t79]), .o 81 (.mv t80), .og 82 81 true (.fa 1 1 t5), .og 83 81 true (.ld false 1 t82), .og 84 81 true (.fa 4 4 t4), .og 85 81 true (.ld false 1 t84), .og 86 81 true (.bin .geq t83 t85), .o 87 (.pick t81 t86 (.c (.bool false)))])
  (.cond t87
  (.seq (.ops [.o 88 (.ld true 15 t4), .o 89 (.call 198 [t88, (ci 8)]), .n (.sto 15 t4 t89)])
  (.ops [.o 90 (.mv t8), .o 91 (.bsl 1 3 zi [(0, 0, 1, (ci 4))]), .o 92 (.app 1 8 3 t90 t91), .o 8 (.mv t92)]))
  .skip))
  (.seq (.ops [.o 93 (.ld true 15 t4), .o 94 (.mv t8), .n (.sto 15 t6 t93), .o 7 (.mv t94)])
  .ret))))))))
theorem hc_r13_age : compF Tryz.prog 95 Tryz.f195 = some (ic_r13_age, [.c 6 true 15, .t 7]) := by kernel_rfl

theorem fn_r13_paid : Tryz.prog.funcs[r13_paid]? = some Tryz.f196 := Tryz.func196
theorem nt_r13_paid : Tryz.f196.ntmps = 57 := Tryz.ntmps196
def ic_r13_paid : IC := (.seq (.ops [.o 2 (.box t0), .o 3 (.box t1), .o 4 (.alloc (.st (zc (zf (zc (zc (zc (zc (zc (zc (zc (zc (zc (zc (zc (zc (zc .nil))))))))))))))))), .o 5 (.mv (.c (.slice none 0 0)))])
  (.seq (.ops [.o 6 (.mv (.c (.slice none 0 0)))])
  (.seq (.seq (.ops [.o 7 (.fa 0 0 t2), .o 8 (.ld false 1 t7), .o 9 (.bin .eql t8 (ci 4))])
  (.cond t9
  (.seq (.ops [.o 10 (.fa 3 3 t3), .o 11 (.ld false 1 t10), .o 12 (.fa 7 7 t2), .o 13 (.ld false 1 t12), .o 14 (.fa 8 8 t2), .o 15 (.ld false 1 t14), .o 16 (.bin .sub t13 t15), .o 17 (.bin .geq t11 t16)])
  (.cond t17
  (.seq (.ops [.o 18 (.fa 9 9 t2), .o 19 (.ld false 1 t18), .o 20 (.bin .add t19 (ci 1)), .o 21 (.fa 9 9 t2), .n (.sto 1 t21 t20)])
  (.seq (.ops [.o 22 (.ld true 15 t2), .o 23 (.call 202 [t22]), .n (.sto 15 t2 t23)])
  (.ops [.o 24 (.mv t6), .o 25 (.bsl 1 3 zi [(0, 0, 1, (ci 5))]), .o 26 (.app 1 8 3 t24 t25), .o 6 (.mv t26)])))
  (.ops [.o 27 (.fa 8 8 t2), .o 28 (.ld false 1 t27), .o 29 (.fa 3 3 t3), .o 30 (.ld false 1 t29), .o 31 (.bin .add t28 t30), .o 32 (.fa 8 8 t2), .n (.sto 1 t32 t31)])))
  .skip))
  (.seq (.seq (.ops [.o 33 (.ld true 15 t2), .o 34 (.call 169 [t33]), .o 35 (.mv t34), .og 36 35 true (.fa 2 2 t3), .og 37 35 true (.ld false 1 t36), .og 38 35 true (.bin .eql t37 (ci 0)), .o 39 (.pick t35 t38 (.c (.bool false)))])
  (.cond t39
  (.seq (.ops [.o 40 (.mv t6), .o 41 (.bsl 1 3 zi [(0, 0, 1, (ci 6))]), .o 42 (.app 1 8 3 t40 t41), .o 6 (.mv t42)])
  (.seq (.ops [.o 43 (.ld true 15 t2), .o 44 (.call 199 [t43]), .o 45 (.mv t6), .n (.sto 15 t4 t44), .o 5 (.mv t45)])
  .ret))
  .skip))
  (.seq (.seq (.ops [.o 46 (.fa 0 0 t2), .o 47 (.ld false 1 t46), .o 48 (.bin .eql t47 (ci 2)), .o 49 (.mv t48), .og 50 49 true (.fa 2 2 t3), .og 51 49 true (.ld false 1 t50), .og 52 49 true (.bin .eql t51 (ci 0)), .o 53 (.pick t49 t52 (.c (.bool false)))])
  (.cond t53
  (.ops [.o 54 (.fa 0 0 t2), .n (.sto 1 t54 (ci 1))])
  .skip))
  (.seq (.ops [.o 55 (.ld true 15 t2), .o 56 (.mv t6), .n (.sto 15 t4 t55), .o 5 (.mv t56)])
  .ret))))))
theorem hc_r13_paid : compF Tryz.prog 57 Tryz.f196 = some (ic_r13_paid, [.c 4 true 15, .t 5]) := by kernel_rfl

theorem fn_r13_returned : Tryz.prog.funcs[r13_returned]? = some Tryz.f197 := Tryz.func197
theorem nt_r13_returned : Tryz.f197.ntmps = 21 := Tryz.ntmps197
def ic_r13_returned : IC := (.seq (.ops [.o 2 (.box t0), .o 3 (.box t1), .o 4 (.alloc (.st (zc (zf (zc (zc (zc (zc (zc (zc (zc (zc (zc (zc (zc (zc (zc .nil)))))))))))))))))])
  (.seq (.seq (.ops [.o 5 (.fa 0 0 t2), .o 6 (.ld false 1 t5), .o 7 (.bin .eql t6 (ci 4))])
  (.cond t7
  (.seq (.ops [.o 8 (.fa 3 3 t3), .o 9 (.ld false 1 t8), .o 10 (.fa 8 8 t2), .o 11 (.ld false 1 t10), .o 12 (.bin .geq t9 t11)])
  (.cond t12
  (.ops [.o 13 (.fa 8 8 t2), .n (.sto 1 t13 (ci 0))])
  (.ops [.o 14 (.fa 8 8 t2), .o 15 (.ld false 1 t14), .o 16 (.fa 3 3 t3), .o 17 (.ld false 1 t16), .o 18 (.bin .sub t15 t17), .o 19 (.fa 8 8 t2), .n (.sto 1 t19 t18)])))
  .skip))
  (.seq (.ops [.o 20 (.ld true 15 t2), .n (.sto 15 t4 t20)])
  .ret)))
theorem hc_r13_returned : compF Tryz.prog 21 Tryz.f197 = some (ic_r13_returned, [.c 4 true 15]) := by kernel_rfl

theorem fn_r13_ended : Tryz.prog.funcs[r13_ended]? = some Tryz.f198 := Tryz.func198
theorem nt_r13_ended : Tryz.f198.ntmps = 15 := Tryz.ntmps198
def ic_r13_ended : IC := (.seq (.ops [.o 2 (.box t0), .o 4 (.alloc (.st (zc (zf (zc (zc (zc (zc (zc (zc (zc (zc (zc (zc (zc (zc (zc .nil)))))))))))))))))])
  (.seq (.ops [.o 5 (.ld true 15 t2), .o 6 (.call 204 [t5]), .n (.sto 15 t2 t6)])
  (.seq (.ops [.o 7 (.fa 1 1 t2), .n (.sto 1 t7 (.c (.bool false)))])
  (.seq (.ops [.o 8 (.fa 3 3 t2), .n (.sto 1 t8 (ci 0))])
  (.seq (.ops [.o 9 (.fa 4 4 t2), .n (.sto 1 t9 (ci 0))])
  (.seq (.ops [.o 10 (.fa 5 5 t2), .n (.sto 1 t10 (ci 0))])
  (.seq (.ops [.o 11 (.fa 13 13 t2), .n (.sto 1 t11 (ci 0))])
  (.seq (.ops [.o 12 (.mv t1), .o 13 (.fa 0 0 t2), .n (.sto 1 t13 t12)])
  (.seq (.ops [.o 14 (.ld true 15 t2), .n (.sto 15 t4 t14)])
  .ret)))))))))
theorem hc_r13_ended : compF Tryz.prog 15 Tryz.f198 = some (ic_r13_ended, [.c 4 true 15]) := by kernel_rfl

theorem fn_r13_cure : Tryz.prog.funcs[r13_cure]? = some Tryz.f199 := Tryz.func199
theorem nt_r13_cure : Tryz.f199.ntmps = 9 := Tryz.ntmps199
def ic_r13_cure : IC := (.seq (.ops [.o 1 (.box t0), .o 2 (.alloc (.st (zc (zf (zc (zc (zc (zc (zc (zc (zc (zc (zc (zc (zc (zc (zc .nil)))))))))))))))))])
  (.seq (.ops [.o 3 (.fa 11 11 t1), .o 4 (.ld false 1 t3), .o 5 (.bin .add t4 (ci 1)), .o 6 (.fa 11 11 t1), .n (.sto 1 t6 t5)])
  (.seq (.ops [.o 7 (.ld true 15 t1), .o 8 (.call 198 [t7, (ci 6)]), .n (.sto 15 t2 t8)])
  .ret)))
theorem hc_r13_cure : compF Tryz.prog 9 Tryz.f199 = some (ic_r13_cure, [.c 2 true 15]) := by kernel_rfl

theorem fn_r9_wants : Tryz.prog.funcs[r9_wants]? = some Tryz.f200 := Tryz.func200
theorem nt_r9_wants : Tryz.f200.ntmps = 15 := Tryz.ntmps200
def ic_r9_wants : IC := (.seq (.ops [.o 2 (.box t0), .o 4 (.mv (ci 0))])
  (.seq (.seq (.ops [.o 5 (.mv t1), .o 6 (.bin .eql t5 (ci 3))])
  (.cond t6
  (.seq (.ops [.o 7 (.fa 0 0 t2), .o 8 (.ld false 1 t7), .o 4 (.mv t8)])
  .ret)
  .skip))
  (.seq (.seq (.ops [.o 9 (.mv t1), .o 10 (.bin .eql t9 (ci 2))])
  (.cond t10
  (.seq (.ops [.o 11 (.fa 1 1 t2), .o 12 (.ld false 1 t11), .o 4 (.mv t12)])
  .ret)
  .skip))
  (.seq (.ops [.o 13 (.fa 2 2 t2), .o 14 (.ld false 1 t13), .o 4 (.mv t14)])
  .ret))))
theorem hc_r9_wants : compF Tryz.prog 15 Tryz.f200 = some (ic_r9_wants, [.t 4]) := by kernel_rfl

theorem fn_r2_Weekday : Tryz.prog.funcs[r2_Weekday]? = some Tryz.f201 := Tryz.func201
theorem nt_r2_Weekday : Tryz.f201.ntmps = 11 := Tryz.ntmps201
def ic_r2_Weekday : IC := (.seq (.ops [.o 2 (.mv (ci 0)), .o 3 (.mv (.c (.bool false)))])
  (.seq (.seq (.ops [.o 4 (.mv t0), .o 5 (.call 176 [t4]), .o 6 (.un .not t5)])
  (.cond t6
  (.seq (.ops [.o 2 (.mv (ci 0)), .o 3 (.mv (.c (.bool false)))])
  .ret)
  .skip))
  (.seq (.ops [.o 7 (.mv t0), .o 8 (.bin .sub t7 (ci 1)), .o 9 (.bin .rem t8 (ci 7)), .o 10 (.bin .add t9 (ci 1)), .o 2 (.mv t10), .o 3 (.mv (.c (.bool true)))])
  .ret)))
theorem hc_r2_Weekday : compF Tryz.prog 11 Tryz.f201 = some (ic_r2_Weekday, [.t 2, .t 3]) := by kernel_rfl

theorem fn_r13_back : Tryz.prog.funcs[r13_back]? = some Tryz.f202 := Tryz.func202
theorem nt_r13_back : Tryz.f202.ntmps = 10 := Tryz.ntmps202
def ic_r13_back : IC := (.seq (.ops [.o 1 (.box t0), .o 2 (.alloc (.st (zc (zf (zc (zc (zc (zc (zc (zc (zc (zc (zc (zc (zc (zc (zc .nil)))))))))))))))))])
  (.seq (.ops [.o 3 (.ld true 15 t1), .o 4 (.call 204 [t3]), .n (.sto 15 t1 t4)])
  (.seq (.ops [.o 5 (.fa 0 0 t1), .n (.sto 1 t5 (ci 3))])
  (.seq (.seq (.ops [.o 6 (.fa 1 1 t1), .o 7 (.ld false 1 t6)])
  (.cond t7
  (.ops [.o 8 (.fa 0 0 t1), .n (.sto 1 t8 (ci 5))])
  .skip))
  (.seq (.ops [.o 9 (.ld true 15 t1), .n (.sto 15 t2 t9)])
  .ret)))))
theorem hc_r13_back : compF Tryz.prog 10 Tryz.f202 = some (ic_r13_back, [.c 2 true 15]) := by kernel_rfl

theorem fn_r13_quiet : Tryz.prog.funcs[r13_quiet]? = some Tryz.f203 := Tryz.func203
theorem nt_r13_quiet : Tryz.f203.ntmps = 41 := Tryz.ntmps203
def ic_r13_quiet : IC := (.seq (.ops [.o 3 (.box t0), .o 4 (.box t1), .o 5 (.box t2), .o 6 (.alloc (.st (zc (zf (zc (zc (zc (zc (zc (zc (zc (zc (zc (zc (zc (zc (zc .nil))))))))))))))))), .o 7 (.mv (.c (.slice none 0 0)))])
  (.seq (.seq (.ops [.o 8 (.fa 2 2 t5), .o 9 (.ld false 1 t8), .o 10 (.bin .eql t9 (ci 0))])
  (.cond t10
  (.seq (.seq (.ops [.o 11 (.fa 0 0 t4), .o 12 (.ld false 1 t11), .o 13 (.bin .eql t12 (ci 2))])
  (.cond t13
  (.ops [.o 14 (.fa 0 0 t4), .n (.sto 1 t14 (ci 1))])
  .skip))
  (.seq (.ops [.o 15 (.ld true 15 t4), .n (.sto 15 t6 t15), .o 7 (.mv (.c (.slice none 0 0)))])
  .ret))
  .skip))
  (.seq (.seq (.ops [.o 16 (.fa 2 2 t5), .o 17 (.ld false 1 t16), .o 18 (.fa 1 1 t3), .o 19 (.ld false 1 t18), .o 20 (.bin .leq t17 t19)])
  (.cond t20
  (.seq (.ops [.o 21 (.fa 0 0 t4), .n (.sto 1 t21 (ci 2))])
  (.seq (.ops [.o 22 (.ld true 15 t4), .n (.sto 15 t6 t22), .o 7 (.mv (.c (.slice none 0 0)))])
  .ret))
  .skip))
  (.seq (.ops [.o 23 (.fa 2 2 t4), .o 24 (.ld false 1 t23), .o 25 (.bin .add t24 (ci 1)), .o 26 (.fa 2 2 t4), .n (.sto 1 t26 t25)])
  (.seq (.ops [.o 27 (.fa 1 1 t5), .o 28 (.ld false 1 t27), .o 29 (.fa 3 3 t4), .n (.sto 1 t29 t28)])
  (.seq (.ops [.o 30 (.fa 1 1 t5), .o 31 (.ld false 1 t30), .o 32 (.fa 3 3 t3), .o 33 (.ld false 1 t32), .o 34 (.bin .add t31 t33), .o 35 (.fa 4 4 t4), .n (.sto 1 t35 t34)])
  (.seq (.ops [.o 36 (.fa 5 5 t4), .n (.sto 1 t36 (ci 0))])
  (.seq (.ops [.o 37 (.fa 13 13 t4), .n (.sto 1 t37 (ci 0))])
  (.seq (.ops [.o 38 (.fa 0 0 t4), .n (.sto 1 t38 (ci 3))])
  (.seq (.ops [.o 39 (.ld true 15 t4), .o 40 (.bsl 1 3 zi [(0, 0, 1, (ci 2))]), .n (.sto 15 t6 t39), .o 7 (.mv t40)])
  .ret))))))))))
theorem hc_r13_quiet : compF Tryz.prog 41 Tryz.f203 = some (ic_r13_quiet, [.c 6 true 15, .t 7]) := by kernel_rfl

theorem fn_r13_cleared : Tryz.prog.funcs[r13_cleared]? = some Tryz.f204 := Tryz.func204
theorem nt_r13_cleared : Tryz.f204.ntmps = 7 := Tryz.ntmps204
def ic_r13_cleared : IC := (.seq (.ops [.o 1 (.box t0), .o 2 (.alloc (.st (zc (zf (zc (zc (zc (zc (zc (zc (zc (zc (zc (zc (zc (zc (zc .nil)))))))))))))))))])
  (.seq (.ops [.o 3 (.fa 6 6 t1), .n (.sto 1 t3 (ci 0))])
  (.seq (.ops [.o 4 (.fa 7 7 t1), .n (.sto 1 t4 (ci 0))])
  (.seq (.ops [.o 5 (.fa 8 8 t1), .n (.sto 1 t5 (ci 0))])
  (.seq (.ops [.o 6 (.ld true 15 t1), .n (.sto 15 t2 t6)])
  .ret)))))
theorem hc_r13_cleared : compF Tryz.prog 7 Tryz.f204 = some (ic_r13_cleared, [.c 2 true 15]) := by kernel_rfl

end Go.Proofs.YtjkmmcbfcglkdaaGreatDoor
