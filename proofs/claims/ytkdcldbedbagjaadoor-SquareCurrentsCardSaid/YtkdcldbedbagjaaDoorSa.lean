/- Lifted texts, printed by program (gen.py): what each function's code asks. The ties are by the kernel. -/
import Derived.Test.YtkdcldbedbagjaaDoorBase
set_option linter.all false
namespace Go.Proofs.YtkdcldbedbagjaaDoor
open Go.Lf Go.RowKit

def S58 (t0 t1 : Value) (w : World) (R : Ending → World → Prop) : Prop :=
  boxW 3 t0 w fun t2 w =>
  boxW 80 (.agg #[(.int .i64 0), (.slice none 0 0)]) w fun t4 w =>
  ld1 w t2 fun t7 =>
  binQ Tryd.prog w .lss 3 true t7 (.int .i64 2) fun t8 =>
  gd t8 false (fun k => ld1 w t2 fun v => k v w) w fun t10 w =>
  gd t8 false (fun k => binQ Tryd.prog w .gtr 3 true t10 (.int .i64 8) fun v => k v w) w fun t11 w =>
  pickQ t8 (.bool true) t11 fun t12 =>
  condW t12 (
    bdQ Tryd.prog 80 [] fun t13 =>
    stW Tryd.prog 80 t4 t13 w fun w =>
    ldN 2 w t4 fun r =>
    R (.returned (.tuple #[r, (.int .i64 2)])) w
  ) (
    ln1 t1 fun t16 =>
    binQ Tryd.prog w .gtr 3 true t16 (.int .i64 16) fun t17 =>
    condW t17 (
      bdQ Tryd.prog 80 [] fun t18 =>
      stW Tryd.prog 80 t4 t18 w fun w =>
      ldN 2 w t4 fun r_2 =>
      R (.returned (.tuple #[r_2, (.int .i64 3)])) w
    ) (
      callW Tryd.prog (.func (.func 73) #[] #[]) [t1, (.func (.func 74) #[] #[t2])] w fun t22 w =>
      condW t22 (
        bdQ Tryd.prog 80 [] fun t23 =>
        stW Tryd.prog 80 t4 t23 w fun w =>
        ldN 2 w t4 fun r_3 =>
        R (.returned (.tuple #[r_3, (.int .i64 2)])) w
      ) (
        ld1 w t2 fun t24 =>
        bdQ Tryd.prog 80 [(0, t24), (1, t1)] fun t26 =>
        stW Tryd.prog 80 t4 t26 w fun w =>
        ldN 2 w t4 fun r_4 =>
        R (.returned (.tuple #[r_4, (.int .i64 0)])) w
      )
    )
  )

def A58 : Ann where
  live := fun _ => []
  wr := fun _ _ => false
  sched := fun _ => .done

set_option maxRecDepth 100000 in
theorem ok58 : (codeOk Tryd.f58.ntmps A58 (Tryd.f58.body.getD .skip) 0 && Nat.ble 2 Tryd.f58.ntmps) = true := by kernel_rfl
set_option maxRecDepth 100000 in
theorem lift58 {t0 t1 : Value} {w : World} {R : Ending → World → Prop} (h : S58 t0 t1 w R) : Calls Tryd.prog 58 #[t0, t1] w R :=
  calls_of_cw (fn := Tryd.f58) (c := Tryd.f58.body.getD .skip) A58 mixes Tryd.func58 (by kernel_rfl) ok58
    ((by kernel_rfl : (S58 t0 t1 w R) = cw Tryd.prog A58 (Tryd.f58.body.getD .skip) 0 (bodyQ Tryd.prog Tryd.f58 R) (frOf #[t0, t1]) w).mp h)

def S74 (t0 t1 : Value) (w : World) (R : Ending → World → Prop) : Prop :=
  boxW 40 t0 w fun t2 w =>
  fa1 t2 0 fun t4 =>
  ld1 w t4 fun t5 =>
  binQ Tryd.prog w .lss 3 true t5 (.int .i64 0) fun t6 =>
  gd t6 false (fun k => fa1 t2 0 fun v => k v w) w fun t8 w =>
  gd t6 false (fun k => ld1 w t8 fun v => k v w) w fun t9 w =>
  gd t6 false (fun k => ld1 w t1 fun v => k v w) w fun t10 w =>
  gd t6 false (fun k => binQ Tryd.prog w .geq 3 false t9 t10 fun v => k v w) w fun t11 w =>
  pickQ t6 (.bool true) t11 fun t12 =>
  gd t12 false (fun k => fa1 t2 1 fun v => k v w) w fun t14 w =>
  gd t12 false (fun k => ld1 w t14 fun v => k v w) w fun t15 w =>
  gd t12 false (fun k => binQ Tryd.prog w .lss 3 true t15 (.int .i64 0) fun v => k v w) w fun t16 w =>
  pickQ t12 (.bool true) t16 fun t17 =>
  gd t17 false (fun k => fa1 t2 1 fun v => k v w) w fun t19 w =>
  gd t17 false (fun k => ld1 w t19 fun v => k v w) w fun t20 w =>
  gd t17 false (fun k => ld1 w t1 fun v => k v w) w fun t21 w =>
  gd t17 false (fun k => binQ Tryd.prog w .geq 3 false t20 t21 fun v => k v w) w fun t22 w =>
  pickQ t17 (.bool true) t22 fun t23 =>
  gd t23 false (fun k => fa1 t2 0 fun v => k v w) w fun t25 w =>
  gd t23 false (fun k => ld1 w t25 fun v => k v w) w fun t26 w =>
  gd t23 false (fun k => fa1 t2 1 fun v => k v w) w fun t27 w =>
  gd t23 false (fun k => ld1 w t27 fun v => k v w) w fun t28 w =>
  gd t23 false (fun k => binQ Tryd.prog w .eql 3 false t26 t28 fun v => k v w) w fun t29 w =>
  pickQ t23 (.bool true) t29 fun t30 =>
  R (.returned t30) w

def A74 : Ann where
  live := fun _ => []
  wr := fun _ _ => false
  sched := fun _ => .done

set_option maxRecDepth 100000 in
theorem ok74 : (codeOk Tryd.f74.ntmps A74 (Tryd.f74.body.getD .skip) 0 && Nat.ble 2 Tryd.f74.ntmps) = true := by kernel_rfl
set_option maxRecDepth 100000 in
theorem lift74 {t0 t1 : Value} {w : World} {R : Ending → World → Prop} (h : S74 t0 t1 w R) : Calls Tryd.prog 74 #[t0, t1] w R :=
  calls_of_cw (fn := Tryd.f74) (c := Tryd.f74.body.getD .skip) A74 mixes Tryd.func74 (by kernel_rfl) ok74
    ((by kernel_rfl : (S74 t0 t1 w R) = cw Tryd.prog A74 (Tryd.f74.body.getD .skip) 0 (bodyQ Tryd.prog Tryd.f74 R) (frOf #[t0, t1]) w).mp h)

def S73 (t0 t1 : Value) (w : World) (R : Ending → World → Prop) : Prop :=
  callW Tryd.prog (.func (.func 87) #[] #[]) [t0, t1] w fun t7 w =>
  binQ Tryd.prog w .geq 3 true t7 (.int .i64 0) fun t8 =>
  R (.returned t8) w

def A73 : Ann where
  live := fun _ => []
  wr := fun _ _ => false
  sched := fun _ => .done

set_option maxRecDepth 100000 in
theorem ok73 : (codeOk Tryd.f73.ntmps A73 (Tryd.f73.body.getD .skip) 0 && Nat.ble 2 Tryd.f73.ntmps) = true := by kernel_rfl
set_option maxRecDepth 100000 in
theorem lift73 {t0 t1 : Value} {w : World} {R : Ending → World → Prop} (h : S73 t0 t1 w R) : Calls Tryd.prog 73 #[t0, t1] w R :=
  calls_of_cw (fn := Tryd.f73) (c := Tryd.f73.body.getD .skip) A73 mixes Tryd.func73 (by kernel_rfl) ok73
    ((by kernel_rfl : (S73 t0 t1 w R) = cw Tryd.prog A73 (Tryd.f73.body.getD .skip) 0 (bodyQ Tryd.prog Tryd.f73 R) (frOf #[t0, t1]) w).mp h)

def S87L0 (t0 t1 t7 : Value) (R : Ending → World → Prop) (w : World) : Prop :=
  Loop1 (.int .i64 0) w fun _ t8 w next =>
    binQ Tryd.prog w .lss 3 false t8 t7 fun t9 =>
    condW t9 (
      iaS 2 t0 t8 fun t14 =>
      ldN 2 w t14 fun t15 =>
      callW Tryd.prog t1 [t15] w fun t16 w =>
      condW t16 (
        R (.returned t8) w
      ) (
        binQ Tryd.prog w .add 3 true t8 (.int .i64 1) fun t18 =>
        next t18 w
      )
    ) (
      R (.returned (.int .i64 (-1))) w
    )



def S87 (t0 t1 : Value) (w : World) (R : Ending → World → Prop) : Prop :=
  ln1 t0 fun t7 =>
  S87L0 t0 t1 t7 R w

def A87 : Ann where
  live := fun
    | 0 => [8]
    | _ => []
  wr := fun
    | 0 => fun i => (Nat.ble 4 i && Nat.ble i 5) || (Nat.ble 8 i && Nat.ble i 18)
    | _ => fun _ => false
  sched := fun _ => .done

set_option maxRecDepth 100000 in
theorem ok87 : (codeOk Tryd.f87.ntmps A87 (Tryd.f87.body.getD .skip) 0 && Nat.ble 2 Tryd.f87.ntmps) = true := by kernel_rfl
set_option maxRecDepth 100000 in
theorem lift87 {t0 t1 : Value} {w : World} {R : Ending → World → Prop} (h : S87 t0 t1 w R) : Calls Tryd.prog 87 #[t0, t1] w R :=
  calls_of_cw (fn := Tryd.f87) (c := Tryd.f87.body.getD .skip) A87 mixes Tryd.func87 (by kernel_rfl) ok87
    ((by kernel_rfl : (S87 t0 t1 w R) = cw Tryd.prog A87 (Tryd.f87.body.getD .skip) 0 (bodyQ Tryd.prog Tryd.f87 R) (frOf #[t0, t1]) w).mp h)

def S54 (t0 t1 t2 t3 : Value) (w : World) (R : Ending → World → Prop) : Prop :=
  boxW 80 (.agg #[(.int .i64 0), (.slice none 0 0)]) w fun t8 w =>
  callW Tryd.prog (.func (.func 58) #[] #[]) [t0, t1] w fun t15 w =>
  exQ t15 0 fun t16 =>
  exQ t15 1 fun t17 =>
  boxW 80 (.agg #[(.int .i64 0), (.slice none 0 0)]) w fun t10 w =>
  stW Tryd.prog 80 t10 t16 w fun w =>
  binQ Tryd.prog w .eql 24 true t17 (.int .i64 0) fun t19 =>
  gd t19 true (fun k => k t2 w) w fun t21 w =>
  gd t19 true (fun k => binQ Tryd.prog w .lss 3 true t21 (.int .i64 0) fun v => k v w) w fun t22 w =>
  gd t19 true (fun k => k t22 w) w fun t23 w =>
  gd t23 false (fun k => k t2 w) w fun t24 w =>
  gd t23 false (fun k => k t0 w) w fun t25 w =>
  gd t23 false (fun k => binQ Tryd.prog w .geq 3 false t24 t25 fun v => k v w) w fun t26 w =>
  gd t19 true (fun k => pickQ t23 (.bool true) t26 fun v => k v w) w fun t27 w =>
  gd t19 true (fun k => k t27 w) w fun t28 w =>
  gd t28 false (fun k => k t3 w) w fun t29 w =>
  gd t28 false (fun k => binQ Tryd.prog w .lss 3 true t29 (.int .i64 0) fun v => k v w) w fun t30 w =>
  gd t19 true (fun k => pickQ t28 (.bool true) t30 fun v => k v w) w fun t31 w =>
  gd t19 true (fun k => k t31 w) w fun t32 w =>
  gd t32 false (fun k => k t3 w) w fun t33 w =>
  gd t32 false (fun k => k t0 w) w fun t34 w =>
  gd t32 false (fun k => binQ Tryd.prog w .geq 3 false t33 t34 fun v => k v w) w fun t35 w =>
  gd t19 true (fun k => pickQ t32 (.bool true) t35 fun v => k v w) w fun t36 w =>
  gd t19 true (fun k => k t36 w) w fun t37 w =>
  gd t37 false (fun k => k t2 w) w fun t38 w =>
  gd t37 false (fun k => k t3 w) w fun t39 w =>
  gd t37 false (fun k => binQ Tryd.prog w .eql 3 false t38 t39 fun v => k v w) w fun t40 w =>
  gd t19 true (fun k => pickQ t37 (.bool true) t40 fun v => k v w) w fun t41 w =>
  pickQ t19 t41 (.bool false) fun t42 =>
  Join (fun (k_2 : Value → World → Prop) =>
    condW t42 (
      k_2 (.int .i64 2) w
    ) (
      k_2 t17 w
    )
  ) fun t11 w =>
  ldN 2 w t10 fun t43_2 =>
  stW Tryd.prog 80 t8 t43_2 w fun w =>
  ldN 2 w t8 fun r_2 =>
  R (.returned (.tuple #[r_2, t11])) w

def A54 : Ann where
  live := fun _ => []
  wr := fun _ _ => false
  sched := fun _ => .done

set_option maxRecDepth 100000 in
theorem ok54 : (codeOk Tryd.f54.ntmps A54 (Tryd.f54.body.getD .skip) 0 && Nat.ble 4 Tryd.f54.ntmps) = true := by kernel_rfl
set_option maxRecDepth 100000 in
theorem lift54 {t0 t1 t2 t3 : Value} {w : World} {R : Ending → World → Prop} (h : S54 t0 t1 t2 t3 w R) : Calls Tryd.prog 54 #[t0, t1, t2, t3] w R :=
  calls_of_cw (fn := Tryd.f54) (c := Tryd.f54.body.getD .skip) A54 mixes Tryd.func54 (by kernel_rfl) ok54
    ((by kernel_rfl : (S54 t0 t1 t2 t3 w R) = cw Tryd.prog A54 (Tryd.f54.body.getD .skip) 0 (bodyQ Tryd.prog Tryd.f54 R) (frOf #[t0, t1, t2, t3]) w).mp h)

def S71L3 (t1 t9 t88 t93 : Value) (k_2 : Value → World → Prop) (w : World) : Prop :=
  Loop2 (.slice none 0 0) (.int .i64 0) w fun _ t12 t94 w next_4 =>
    binQ Tryd.prog w .lss 3 false t94 t93 fun t95 =>
    condW t95 (
      iaS 1 t88 t94 fun t97 =>
      ld1 w t97 fun t98 =>
      callW Tryd.prog (.func (.func 86) #[] #[]) [t1, t94] w fun t101 w =>
      unQ .not t101 fun t102 =>
      Join (fun (k_3 : Value → World → Prop) =>
        condW t102 (
          bsW Tryd.prog 34 1 [(0, t98)] w fun t105 w =>
          semW Tryd.prog (apS [34, 34] 34 [t12, t105]) w fun t106 w =>
          k_3 t106 w
        ) (
          k_3 t12 w
        )
      ) fun t12_2 w =>
      binQ Tryd.prog w .add 3 true t94 (.int .i64 1) fun t107_2 =>
      next_4 t12_2 t107_2 w
    ) (
      bsW Tryd.prog 52 1 [(0, t12)] w fun t110 w =>
      semW Tryd.prog (apS [52, 52] 52 [t9, t110]) w fun t111 w =>
      k_2 t111 w
    )

def S71L2 (t1 t17 t83 : Value) (R : Ending → World → Prop) (w : World) : Prop :=
  Loop2 (.slice none 0 0) (.int .i64 0) w fun _ t9 t84 w next_3 =>
    binQ Tryd.prog w .lss 3 false t84 t83 fun t85 =>
    condW t85 (
      Join (fun (k_2 : Value → World → Prop) =>
        iaS 1 t17 t84 fun t87 =>
        ld1 w t87 fun t88 =>
        callW Tryd.prog (.func (.func 86) #[] #[]) [t1, t84] w fun t91 w =>
        condW t91 (
          k_2 t9 w
        ) (
          ln1 t88 fun t93 =>
          S71L3 t1 t9 t88 t93 k_2 w
        )
      ) fun t9_2 w =>
      binQ Tryd.prog w .add 3 true t84 (.int .i64 1) fun t112_2 =>
      next_3 t9_2 t112_2 w
    ) (
      R (.returned t9) w
    )

def S71L1 (t1 t17 t31 t32 : Value) (R : Ending → World → Prop) (w : World) : Prop :=
  Loop1 (.int .i64 0) w fun _ t33 w next_2 =>
    binQ Tryd.prog w .lss 3 false t33 t32 fun t34 =>
    condW t34 (
      iaS 2 t31 t33 fun t35 =>
      ldN 2 w t35 fun t36 =>
      boxW 40 (.agg #[(.int .i64 0), (.int .i64 0)]) w fun t8 w =>
      stW Tryd.prog 40 t8 t36 w fun w =>
      Drew w fun w =>
      fa1 t8 0 fun t38 =>
      ld1 w t38 fun t39 =>
      iaS 1 t17 t39 fun t40 =>
      ld1 w t40 fun t41 =>
      fa1 t8 0 fun t42 =>
      ld1 w t42 fun t43 =>
      iaS 1 t41 t43 fun t44 =>
      ld1 w t44 fun t45 =>
      binQ Tryd.prog w .add 3 true t45 (.int .i64 1) fun t46 =>
      iaS 1 t41 t43 fun t47 =>
      stW Tryd.prog 3 t47 t46 w fun w =>
      Drew w fun w =>
      fa1 t8 1 fun t49 =>
      ld1 w t49 fun t50 =>
      iaS 1 t17 t50 fun t51 =>
      ld1 w t51 fun t52 =>
      fa1 t8 1 fun t53 =>
      ld1 w t53 fun t54 =>
      iaS 1 t52 t54 fun t55 =>
      ld1 w t55 fun t56 =>
      binQ Tryd.prog w .add 3 true t56 (.int .i64 1) fun t57 =>
      iaS 1 t52 t54 fun t58 =>
      stW Tryd.prog 3 t58 t57 w fun w =>
      Drew w fun w =>
      fa1 t8 0 fun t60 =>
      ld1 w t60 fun t61 =>
      iaS 1 t17 t61 fun t62 =>
      ld1 w t62 fun t63 =>
      fa1 t8 1 fun t64 =>
      ld1 w t64 fun t65 =>
      iaS 1 t63 t65 fun t66 =>
      ld1 w t66 fun t67 =>
      binQ Tryd.prog w .sub 3 true t67 (.int .i64 1) fun t68 =>
      iaS 1 t63 t65 fun t69 =>
      stW Tryd.prog 3 t69 t68 w fun w =>
      Drew w fun w =>
      fa1 t8 1 fun t71 =>
      ld1 w t71 fun t72 =>
      iaS 1 t17 t72 fun t73 =>
      ld1 w t73 fun t74 =>
      fa1 t8 0 fun t75 =>
      ld1 w t75 fun t76 =>
      iaS 1 t74 t76 fun t77 =>
      ld1 w t77 fun t78 =>
      binQ Tryd.prog w .sub 3 true t78 (.int .i64 1) fun t79 =>
      iaS 1 t74 t76 fun t80 =>
      stW Tryd.prog 3 t80 t79 w fun w =>
      binQ Tryd.prog w .add 3 true t33 (.int .i64 1) fun t81 =>
      next_2 t81 w
    ) (
      ln1 t17 fun t83 =>
      S71L2 t1 t17 t83 R w
    )

def S71L0 (t1 t2 t17 t19 : Value) (R : Ending → World → Prop) (w : World) : Prop :=
  Loop1 (.int .i64 0) w fun _ t20 w next =>
    binQ Tryd.prog w .lss 3 false t20 t19 fun t21 =>
    condW t21 (
      fa1 t2 0 fun t25 =>
      ld1 w t25 fun t26 =>
      mkW Tryd.prog 34 t26 t26 w fun t27 w =>
      iaS 1 t17 t20 fun t28 =>
      stW Tryd.prog 34 t28 t27 w fun w =>
      binQ Tryd.prog w .add 3 true t20 (.int .i64 1) fun t29 =>
      next t29 w
    ) (
      fa1 t2 1 fun t30 =>
      ld1 w t30 fun t31 =>
      ln1 t31 fun t32 =>
      S71L1 t1 t17 t31 t32 R w
    )



def S71 (t0 t1 : Value) (w : World) (R : Ending → World → Prop) : Prop :=
  boxW 80 t0 w fun t2 w =>
  fa1 t2 0 fun t15 =>
  ld1 w t15 fun t16 =>
  mkW Tryd.prog 52 t16 t16 w fun t17 w =>
  ln1 t17 fun t19 =>
  S71L0 t1 t2 t17 t19 R w

def A71 : Ann where
  live := fun
    | 0 => [20]
    | 2 => [33]
    | 4 => [9, 84]
    | 6 => [12, 94]
    | _ => []
  wr := fun
    | 0 => fun i => Nat.beq i 6 || (Nat.ble 20 i && Nat.ble i 29)
    | 2 => fun i => Nat.beq i 8 || (Nat.ble 33 i && Nat.ble i 81)
    | 4 => fun i => (Nat.ble 9 i && Nat.ble i 14) || (Nat.ble 84 i && Nat.ble i 112)
    | 6 => fun i => (Nat.ble 12 i && Nat.ble i 14) || (Nat.ble 94 i && Nat.ble i 107)
    | _ => fun _ => false
  sched := fun
    | 10 => (.take 0 (.take 1 (.take 2 (.take 3 (.take 4 (.take 5 (.take 6 (.take 7 (.take 8 (.take 9 (.take 10 (.bar 11 .done))))))))))))
    | 11 => (.take 0 (.take 1 (.take 2 (.take 3 (.take 4 (.take 5 (.take 6 (.take 7 (.take 8 (.take 9 (.take 10 (.bar 11 .done))))))))))))
    | 12 => (.take 0 (.take 1 (.take 2 (.take 3 (.take 4 (.take 5 (.take 6 (.take 7 (.take 8 (.take 9 (.take 10 (.bar 11 .done))))))))))))
    | 13 => (.take 0 (.take 1 (.take 2 (.take 3 (.take 4 (.take 5 (.take 6 (.take 7 (.take 8 (.take 9 (.take 10 (.bar 11 .done))))))))))))
    | _ => .done

set_option maxRecDepth 100000 in
theorem ok71 : (codeOk Tryd.f71.ntmps A71 (Tryd.f71.body.getD .skip) 0 && Nat.ble 2 Tryd.f71.ntmps) = true := by kernel_rfl
set_option maxRecDepth 100000 in
theorem lift71 {t0 t1 : Value} {w : World} {R : Ending → World → Prop} (h : S71 t0 t1 w R) : Calls Tryd.prog 71 #[t0, t1] w R :=
  calls_of_cw (fn := Tryd.f71) (c := Tryd.f71.body.getD .skip) A71 mixes Tryd.func71 (by kernel_rfl) ok71
    ((by kernel_rfl : (S71 t0 t1 w R) = cw Tryd.prog A71 (Tryd.f71.body.getD .skip) 0 (bodyQ Tryd.prog Tryd.f71 R) (frOf #[t0, t1]) w).mp h)

def S86 (t0 t1 : Value) (w : World) (R : Ending → World → Prop) : Prop :=
  callW Tryd.prog (.func (.func 99) #[] #[]) [t0, t1] w fun t7 w =>
  binQ Tryd.prog w .geq 3 true t7 (.int .i64 0) fun t8 =>
  R (.returned t8) w

def A86 : Ann where
  live := fun _ => []
  wr := fun _ _ => false
  sched := fun _ => .done

set_option maxRecDepth 100000 in
theorem ok86 : (codeOk Tryd.f86.ntmps A86 (Tryd.f86.body.getD .skip) 0 && Nat.ble 2 Tryd.f86.ntmps) = true := by kernel_rfl
set_option maxRecDepth 100000 in
theorem lift86 {t0 t1 : Value} {w : World} {R : Ending → World → Prop} (h : S86 t0 t1 w R) : Calls Tryd.prog 86 #[t0, t1] w R :=
  calls_of_cw (fn := Tryd.f86) (c := Tryd.f86.body.getD .skip) A86 mixes Tryd.func86 (by kernel_rfl) ok86
    ((by kernel_rfl : (S86 t0 t1 w R) = cw Tryd.prog A86 (Tryd.f86.body.getD .skip) 0 (bodyQ Tryd.prog Tryd.f86 R) (frOf #[t0, t1]) w).mp h)

def S99L0 (t0 t1 t7 : Value) (R : Ending → World → Prop) (w : World) : Prop :=
  Loop1 (.int .i64 0) w fun _ t8 w next =>
    binQ Tryd.prog w .lss 3 false t8 t7 fun t9 =>
    condW t9 (
      iaS 1 t0 t8 fun t14 =>
      ld1 w t14 fun t15 =>
      binQ Tryd.prog w .eql 3 false t1 t15 fun t16 =>
      condW t16 (
        R (.returned t8) w
      ) (
        binQ Tryd.prog w .add 3 true t8 (.int .i64 1) fun t18 =>
        next t18 w
      )
    ) (
      R (.returned (.int .i64 (-1))) w
    )



def S99 (t0 t1 : Value) (w : World) (R : Ending → World → Prop) : Prop :=
  ln1 t0 fun t7 =>
  S99L0 t0 t1 t7 R w

def A99 : Ann where
  live := fun
    | 0 => [8]
    | _ => []
  wr := fun
    | 0 => fun i => (Nat.ble 4 i && Nat.ble i 5) || (Nat.ble 8 i && Nat.ble i 18)
    | _ => fun _ => false
  sched := fun _ => .done

set_option maxRecDepth 100000 in
theorem ok99 : (codeOk Tryd.f99.ntmps A99 (Tryd.f99.body.getD .skip) 0 && Nat.ble 2 Tryd.f99.ntmps) = true := by kernel_rfl
set_option maxRecDepth 100000 in
theorem lift99 {t0 t1 : Value} {w : World} {R : Ending → World → Prop} (h : S99 t0 t1 w R) : Calls Tryd.prog 99 #[t0, t1] w R :=
  calls_of_cw (fn := Tryd.f99) (c := Tryd.f99.body.getD .skip) A99 mixes Tryd.func99 (by kernel_rfl) ok99
    ((by kernel_rfl : (S99 t0 t1 w R) = cw Tryd.prog A99 (Tryd.f99.body.getD .skip) 0 (bodyQ Tryd.prog Tryd.f99 R) (frOf #[t0, t1]) w).mp h)

def S70L2 (t1 t2 t6 t7 t9_2 t54_2 : Value) (next_4 : Value → World → Prop) (w : World) : Prop :=
  Loop1 t54_2 w fun _ t10_2 w next_5 =>
    ln1 t1 fun t57_2 =>
    binQ Tryd.prog w .lss 3 false t10_2 t57_2 fun t58_2 =>
    condW t58_2 (
      Drew w fun w =>
      iaS 1 t1 t9_2 fun t63_2 =>
      ld1 w t63_2 fun t64_2 =>
      fa1 t2 2 fun t66_2 =>
      ld1 w t66_2 fun t67_2 =>
      fa1 t2 0 fun t68_2 =>
      ld1 w t68_2 fun t69_2 =>
      fa1 t2 1 fun t70_2 =>
      ld1 w t70_2 fun t71_2 =>
      iaS 1 t1 t9_2 fun t74_2 =>
      ld1 w t74_2 fun t75_2 =>
      iaS 1 t75_2 t10_2 fun t77_2 =>
      ld1 w t77_2 fun t78_2 =>
      ld1 w t7 fun t80_2 =>
      iaS 1 t1 t80_2 fun t81_2 =>
      ld1 w t81_2 fun t82_2 =>
      ld1 w t7 fun t83_2 =>
      iaS 1 t82_2 t83_2 fun t84_2 =>
      ld1 w t84_2 fun t85_2 =>
      fa1 t2 1 fun t87_2 =>
      ld1 w t87_2 fun t88_2 =>
      iaS 1 t1 t9_2 fun t91_2 =>
      ld1 w t91_2 fun t92_2 =>
      ld1 w t7 fun t93_2 =>
      iaS 1 t92_2 t93_2 fun t94_2 =>
      ld1 w t94_2 fun t95_2 =>
      ld1 w t7 fun t97_2 =>
      iaS 1 t1 t97_2 fun t98_2 =>
      ld1 w t98_2 fun t99_2 =>
      iaS 1 t99_2 t10_2 fun t101_2 =>
      ld1 w t101_2 fun t102_2 =>
      callW Tryd.prog t71_2 [t78_2, t85_2] w <| keepB w fun t86_2 w =>
      callW Tryd.prog t88_2 [t95_2, t102_2] w <| keepB w fun t103_2 w =>
      callW Tryd.prog t69_2 [t86_2, t103_2] w <| keepB w fun t104_2 w =>
      callW Tryd.prog t67_2 [t104_2, t6] w <| keepB w fun t106_2 w =>
      iaS 1 t64_2 t10_2 fun t107_2 =>
      stW Tryd.prog 3 t107_2 t106_2 w fun w =>
      binQ Tryd.prog w .add 3 true t10_2 (.int .i64 1) fun t60_2 =>
      next_5 t60_2 w
    ) (
      binQ Tryd.prog w .add 3 true t9_2 (.int .i64 1) fun t52_2 =>
      next_4 t52_2 w
    )

def S70L1 (t1 t2 t5_2 t6 t7 t13 t46_2 : Value) (next : Value → Value → Value → World → Prop) (w : World) : Prop :=
  Loop1 t46_2 w fun _ t9_2 w next_4 =>
    ln1 t1 fun t49_2 =>
    binQ Tryd.prog w .lss 3 false t9_2 t49_2 fun t50_2 =>
    condW t50_2 (
      ld1 w t7 fun t53_2 =>
      binQ Tryd.prog w .add 3 true t53_2 (.int .i64 1) fun t54_2 =>
      S70L2 t1 t2 t6 t7 t9_2 t54_2 next_4 w
    ) (
      Drew w fun w =>
      ld1 w t7 fun t109_2 =>
      iaS 1 t1 t109_2 fun t110_2 =>
      ld1 w t110_2 fun t111_2 =>
      ld1 w t7 fun t112_2 =>
      iaS 1 t111_2 t112_2 fun t113_2 =>
      ld1 w t113_2 fun t114_2 =>
      binQ Tryd.prog w .add 3 true t13 (.int .i64 1) fun t115_2 =>
      next t5_2 t114_2 t115_2 w
    )

def S70L0 (t1 t2 t12 : Value) (R : Ending → World → Prop) (w : World) : Prop :=
  Loop3 (.int .i64 1) (.int .i64 1) (.int .i64 0) w fun _ t5 t6 t13 w next =>
    binQ Tryd.prog w .lss 3 false t13 t12 fun t14 =>
    condW t14 (
      boxW 3 (.int .i64 0) w fun t7 w =>
      stW Tryd.prog 3 t7 t13 w fun w =>
      ld1 w t7 fun t17 =>
      slS 1 t1 (some t17) none fun t18 =>
      callW Tryd.prog (.func (.func 84) #[] #[]) [t18, (.func (.func 85) #[] #[t7])] w fun t20 w =>
      binQ Tryd.prog w .lss 3 true t20 (.int .i64 0) fun t22 =>
      condW t22 (
        R (.returned (.int .i64 0)) w
      ) (
        binQ Tryd.prog w .gtr 3 true t20 (.int .i64 0) fun t24 =>
        Join (fun (k_2 : Value → World → Prop) =>
          condW t24 (
            Drew w fun w =>
            ∃ X : Nat → Prop,
            ld1 w t7 fun t26 =>
            takeX X w (fun w k => k t1) fun t27 =>
            takeX X w (fun w k => ld1 w t7 k) fun t28 =>
            takeX X w (fun w k => k t20) fun t29 =>
            takeX X w (fun w k => binQ Tryd.prog w .add 3 false t28 t29 k) fun t30 =>
            ld1 w t7 fun t32 =>
            binQ Tryd.prog w .add 3 false t32 t20 fun t34 =>
            iaS 1 t1 t34 fun t35 =>
            ld1 w t35 fun t36 =>
            ld1 w t7 fun t38 =>
            iaS 1 t1 t38 fun t39 =>
            ld1 w t39 fun t40 =>
            iaS 1 t1 t26 fun t41 =>
            stW Tryd.prog 34 t41 t36 w <| keepW X w fun w =>
            takeX X w (fun w k => iaS 1 t27 t30 k) fun t42 =>
            stW Tryd.prog 34 t42 t40 w fun w =>
            unQ .neg t5 fun t44 =>
            k_2 t44 w
          ) (
            k_2 t5 w
          )
        ) fun t5_2 w =>
        ld1 w t7 fun t45_2 =>
        binQ Tryd.prog w .add 3 true t45_2 (.int .i64 1) fun t46_2 =>
        S70L1 t1 t2 t5_2 t6 t7 t13 t46_2 next w
      )
    ) (
      binQ Tryd.prog w .mul 3 false t5 t6 fun t118 =>
      R (.returned t118) w
    )



def S70 (t0 t1 : Value) (w : World) (R : Ending → World → Prop) : Prop :=
  boxW 100 t0 w fun t2 w =>
  ln1 t1 fun t12 =>
  S70L0 t1 t2 t12 R w

def A70 : Ann where
  live := fun
    | 0 => [5, 6, 13]
    | 2 => [9]
    | 4 => [10]
    | _ => []
  wr := fun
    | 0 => fun i => (Nat.ble 4 i && Nat.ble i 10) || (Nat.ble 13 i && Nat.ble i 115)
    | 2 => fun i => (Nat.ble 9 i && Nat.ble i 10) || (Nat.ble 47 i && Nat.ble i 107)
    | 4 => fun i => Nat.beq i 10 || (Nat.ble 55 i && Nat.ble i 107)
    | _ => fun _ => false
  sched := fun
    | 9 => (.cls (.take 0 (.take 1 (.take 2 (.take 3 (.take 4 (.take 5 (.take 6 (.take 7 (.take 8 (.take 9 (.take 10 (.take 11 (.take 12 (.take 13 (.take 14 (.take 15 (.take 16 (.eff 17 (.take 18 (.bar 19 .done)))))))))))))))))))))
    | 17 => (.take 0 (.take 1 (.take 2 (.take 3 (.take 4 (.take 5 (.take 6 (.take 7 (.take 8 (.take 9 (.take 10 (.take 11 (.take 12 (.take 13 (.take 14 (.take 15 (.take 16 (.take 17 (.take 18 (.take 19 (.take 20 (.take 21 (.take 22 (.take 23 (.take 24 (.take 26 (.take 27 (.take 28 (.take 29 (.take 30 (.take 31 (.take 32 (.take 33 (.take 34 (.take 35 (.take 36 (.take 37 (.take 38 (.take 39 (.take 40 (.take 41 (.take 44 (.eff 25 (.eff 42 (.eff 43 (.eff 45 (.take 46 (.bar 47 .done))))))))))))))))))))))))))))))))))))))))))))))))
    | 18 => (.take 0 (.take 1 (.take 2 (.take 3 (.take 4 (.take 5 (.take 6 (.take 7 .done))))))))
    | _ => .done

set_option maxRecDepth 100000 in
theorem ok70 : (codeOk Tryd.f70.ntmps A70 (Tryd.f70.body.getD .skip) 0 && Nat.ble 2 Tryd.f70.ntmps) = true := by kernel_rfl
set_option maxRecDepth 100000 in
theorem lift70 {t0 t1 : Value} {w : World} {R : Ending → World → Prop} (h : S70 t0 t1 w R) : Calls Tryd.prog 70 #[t0, t1] w R :=
  calls_of_cw (fn := Tryd.f70) (c := Tryd.f70.body.getD .skip) A70 mixes Tryd.func70 (by kernel_rfl) ok70
    ((by kernel_rfl : (S70 t0 t1 w R) = cw Tryd.prog A70 (Tryd.f70.body.getD .skip) 0 (bodyQ Tryd.prog Tryd.f70 R) (frOf #[t0, t1]) w).mp h)

def S84L0 (t0 t1 t7 : Value) (R : Ending → World → Prop) (w : World) : Prop :=
  Loop1 (.int .i64 0) w fun _ t8 w next =>
    binQ Tryd.prog w .lss 3 false t8 t7 fun t9 =>
    condW t9 (
      iaS 1 t0 t8 fun t14 =>
      ld1 w t14 fun t15 =>
      callW Tryd.prog t1 [t15] w fun t16 w =>
      condW t16 (
        R (.returned t8) w
      ) (
        binQ Tryd.prog w .add 3 true t8 (.int .i64 1) fun t18 =>
        next t18 w
      )
    ) (
      R (.returned (.int .i64 (-1))) w
    )



def S84 (t0 t1 : Value) (w : World) (R : Ending → World → Prop) : Prop :=
  ln1 t0 fun t7 =>
  S84L0 t0 t1 t7 R w

def A84 : Ann where
  live := fun
    | 0 => [8]
    | _ => []
  wr := fun
    | 0 => fun i => (Nat.ble 4 i && Nat.ble i 5) || (Nat.ble 8 i && Nat.ble i 18)
    | _ => fun _ => false
  sched := fun _ => .done

set_option maxRecDepth 100000 in
theorem ok84 : (codeOk Tryd.f84.ntmps A84 (Tryd.f84.body.getD .skip) 0 && Nat.ble 2 Tryd.f84.ntmps) = true := by kernel_rfl
set_option maxRecDepth 100000 in
theorem lift84 {t0 t1 : Value} {w : World} {R : Ending → World → Prop} (h : S84 t0 t1 w R) : Calls Tryd.prog 84 #[t0, t1] w R :=
  calls_of_cw (fn := Tryd.f84) (c := Tryd.f84.body.getD .skip) A84 mixes Tryd.func84 (by kernel_rfl) ok84
    ((by kernel_rfl : (S84 t0 t1 w R) = cw Tryd.prog A84 (Tryd.f84.body.getD .skip) 0 (bodyQ Tryd.prog Tryd.f84 R) (frOf #[t0, t1]) w).mp h)

def S85 (t0 t1 : Value) (w : World) (R : Ending → World → Prop) : Prop :=
  ld1 w t1 fun t5 =>
  iaS 1 t0 t5 fun t6 =>
  ld1 w t6 fun t7 =>
  binQ Tryd.prog w .neq 3 true t7 (.int .i64 0) fun t8 =>
  R (.returned t8) w

def A85 : Ann where
  live := fun _ => []
  wr := fun _ _ => false
  sched := fun _ => .done

set_option maxRecDepth 100000 in
theorem ok85 : (codeOk Tryd.f85.ntmps A85 (Tryd.f85.body.getD .skip) 0 && Nat.ble 2 Tryd.f85.ntmps) = true := by kernel_rfl
set_option maxRecDepth 100000 in
theorem lift85 {t0 t1 : Value} {w : World} {R : Ending → World → Prop} (h : S85 t0 t1 w R) : Calls Tryd.prog 85 #[t0, t1] w R :=
  calls_of_cw (fn := Tryd.f85) (c := Tryd.f85.body.getD .skip) A85 mixes Tryd.func85 (by kernel_rfl) ok85
    ((by kernel_rfl : (S85 t0 t1 w R) = cw Tryd.prog A85 (Tryd.f85.body.getD .skip) 0 (bodyQ Tryd.prog Tryd.f85 R) (frOf #[t0, t1]) w).mp h)

def S122 (t0 t1 : Value) (w : World) (R : Ending → World → Prop) : Prop :=
  binQ Tryd.prog w .sub 3 false t0 t1 fun t7 =>
  R (.returned t7) w

def A122 : Ann where
  live := fun _ => []
  wr := fun _ _ => false
  sched := fun _ => .done

set_option maxRecDepth 100000 in
theorem ok122 : (codeOk Tryd.f122.ntmps A122 (Tryd.f122.body.getD .skip) 0 && Nat.ble 2 Tryd.f122.ntmps) = true := by kernel_rfl
set_option maxRecDepth 100000 in
theorem lift122 {t0 t1 : Value} {w : World} {R : Ending → World → Prop} (h : S122 t0 t1 w R) : Calls Tryd.prog 122 #[t0, t1] w R :=
  calls_of_cw (fn := Tryd.f122) (c := Tryd.f122.body.getD .skip) A122 mixes Tryd.func122 (by kernel_rfl) ok122
    ((by kernel_rfl : (S122 t0 t1 w R) = cw Tryd.prog A122 (Tryd.f122.body.getD .skip) 0 (bodyQ Tryd.prog Tryd.f122 R) (frOf #[t0, t1]) w).mp h)

def S123 (t0 t1 : Value) (w : World) (R : Ending → World → Prop) : Prop :=
  binQ Tryd.prog w .mul 3 false t0 t1 fun t7 =>
  R (.returned t7) w

def A123 : Ann where
  live := fun _ => []
  wr := fun _ _ => false
  sched := fun _ => .done

set_option maxRecDepth 100000 in
theorem ok123 : (codeOk Tryd.f123.ntmps A123 (Tryd.f123.body.getD .skip) 0 && Nat.ble 2 Tryd.f123.ntmps) = true := by kernel_rfl
set_option maxRecDepth 100000 in
theorem lift123 {t0 t1 : Value} {w : World} {R : Ending → World → Prop} (h : S123 t0 t1 w R) : Calls Tryd.prog 123 #[t0, t1] w R :=
  calls_of_cw (fn := Tryd.f123) (c := Tryd.f123.body.getD .skip) A123 mixes Tryd.func123 (by kernel_rfl) ok123
    ((by kernel_rfl : (S123 t0 t1 w R) = cw Tryd.prog A123 (Tryd.f123.body.getD .skip) 0 (bodyQ Tryd.prog Tryd.f123 R) (frOf #[t0, t1]) w).mp h)

def S124 (t0 t1 : Value) (w : World) (R : Ending → World → Prop) : Prop :=
  binQ Tryd.prog w .quo 3 false t0 t1 fun t7 =>
  R (.returned t7) w

def A124 : Ann where
  live := fun _ => []
  wr := fun _ _ => false
  sched := fun _ => .done

set_option maxRecDepth 100000 in
theorem ok124 : (codeOk Tryd.f124.ntmps A124 (Tryd.f124.body.getD .skip) 0 && Nat.ble 2 Tryd.f124.ntmps) = true := by kernel_rfl
set_option maxRecDepth 100000 in
theorem lift124 {t0 t1 : Value} {w : World} {R : Ending → World → Prop} (h : S124 t0 t1 w R) : Calls Tryd.prog 124 #[t0, t1] w R :=
  calls_of_cw (fn := Tryd.f124) (c := Tryd.f124.body.getD .skip) A124 mixes Tryd.func124 (by kernel_rfl) ok124
    ((by kernel_rfl : (S124 t0 t1 w R) = cw Tryd.prog A124 (Tryd.f124.body.getD .skip) 0 (bodyQ Tryd.prog Tryd.f124 R) (frOf #[t0, t1]) w).mp h)

def S55 (t0 : Value) (w : World) (R : Ending → World → Prop) : Prop :=
  boxW 80 t0 w fun t1 w =>
  Drew w fun w =>
  ldN 3 w (.pointer (some ⟨0, 0, none⟩)) fun t3 =>
  ldN 2 w t1 fun t4 =>
  bsW Tryd.prog 34 1 [(0, (.int .i64 0))] w <| keepB w fun t5 w =>
  callW Tryd.prog (.func (.func 71) #[] #[]) [t4, t5] w <| keepB w fun t6 w =>
  callW Tryd.prog (.func (.func 70) #[] #[]) [t3, t6] w fun t7 w =>
  R (.returned t7) w

def A55 : Ann where
  live := fun _ => []
  wr := fun _ _ => false
  sched := fun
    | 1 => (.take 0 (.take 1 (.eff 2 (.eff 3 (.bar 4 (.take 5 .done))))))
    | _ => .done

set_option maxRecDepth 100000 in
theorem ok55 : (codeOk Tryd.f55.ntmps A55 (Tryd.f55.body.getD .skip) 0 && Nat.ble 1 Tryd.f55.ntmps) = true := by kernel_rfl
set_option maxRecDepth 100000 in
theorem lift55 {t0 : Value} {w : World} {R : Ending → World → Prop} (h : S55 t0 w R) : Calls Tryd.prog 55 #[t0] w R :=
  calls_of_cw (fn := Tryd.f55) (c := Tryd.f55.body.getD .skip) A55 mixes Tryd.func55 (by kernel_rfl) ok55
    ((by kernel_rfl : (S55 t0 w R) = cw Tryd.prog A55 (Tryd.f55.body.getD .skip) 0 (bodyQ Tryd.prog Tryd.f55 R) (frOf #[t0]) w).mp h)

def S56 (t0 t1 t2 : Value) (w : World) (R : Ending → World → Prop) : Prop :=
  boxW 80 t0 w fun t3 w =>
  Drew w fun w =>
  ldN 3 w (.pointer (some ⟨0, 0, none⟩)) fun t7 =>
  ldN 2 w t3 fun t8 =>
  bsW Tryd.prog 34 2 [(0, t1), (1, t2)] w <| keepB w fun t11 w =>
  callW Tryd.prog (.func (.func 71) #[] #[]) [t8, t11] w <| keepB w fun t12 w =>
  callW Tryd.prog (.func (.func 70) #[] #[]) [t7, t12] w fun t13 w =>
  R (.returned t13) w

def A56 : Ann where
  live := fun _ => []
  wr := fun _ _ => false
  sched := fun
    | 1 => (.take 0 (.take 1 (.take 2 (.take 3 (.eff 4 (.eff 5 (.bar 6 (.take 7 .done))))))))
    | _ => .done

set_option maxRecDepth 100000 in
theorem ok56 : (codeOk Tryd.f56.ntmps A56 (Tryd.f56.body.getD .skip) 0 && Nat.ble 3 Tryd.f56.ntmps) = true := by kernel_rfl
set_option maxRecDepth 100000 in
theorem lift56 {t0 t1 t2 : Value} {w : World} {R : Ending → World → Prop} (h : S56 t0 t1 t2 w R) : Calls Tryd.prog 56 #[t0, t1, t2] w R :=
  calls_of_cw (fn := Tryd.f56) (c := Tryd.f56.body.getD .skip) A56 mixes Tryd.func56 (by kernel_rfl) ok56
    ((by kernel_rfl : (S56 t0 t1 t2 w R) = cw Tryd.prog A56 (Tryd.f56.body.getD .skip) 0 (bodyQ Tryd.prog Tryd.f56 R) (frOf #[t0, t1, t2]) w).mp h)

def S57L0 (t1 t3 t6 t19 t22 : Value) (R : Ending → World → Prop) (w : World) : Prop :=
  Loop1 (.int .i64 0) w fun _ t23 w next =>
    binQ Tryd.prog w .lss 3 false t23 t22 fun t24 =>
    condW t24 (
      iaS 1 t19 t23 fun t26 =>
      ld1 w t26 fun t27 =>
      callW Tryd.prog (.func (.func 72) #[] #[t6]) [t3] w fun t31 w =>
      iaS 1 t27 t31 fun t32 =>
      stW Tryd.prog 3 t32 (.int .i64 0) w fun w =>
      callW Tryd.prog (.func (.func 72) #[] #[t6]) [t1] w fun t36 w =>
      binQ Tryd.prog w .eql 3 false t23 t36 fun t37 =>
      Join (fun (k_2 : World → Prop) =>
        condW t37 (
          callW Tryd.prog (.func (.func 72) #[] #[t6]) [t3] w fun t41 w =>
          iaS 1 t27 t41 fun t42 =>
          stW Tryd.prog 3 t42 (.int .i64 1) w fun w =>
          k_2 w
        ) (
          k_2 w
        )
      ) fun w =>
      binQ Tryd.prog w .add 3 true t23 (.int .i64 1) fun t43_2 =>
      next t43_2 w
    ) (
      ldN 3 w (.pointer (some ⟨0, 0, none⟩)) fun t44 =>
      callW Tryd.prog (.func (.func 70) #[] #[]) [t44, t19] w fun t46 w =>
      R (.returned t46) w
    )

def S57 (t0 t1 t2 t3 : Value) (w : World) (R : Ending → World → Prop) : Prop :=
  boxW 80 t0 w fun t4 w =>
  boxW 3 t2 w fun t6 w =>
  ld1 w t6 fun t14 =>
  binQ Tryd.prog w .eql 3 false t3 t14 fun t15 =>
  condW t15 (
    R (.returned (.int .i64 0)) w
  ) (
    ldN 2 w t4 fun t16 =>
    ld1 w t6 fun t17 =>
    bsW Tryd.prog 34 1 [(0, t17)] w fun t18 w =>
    callW Tryd.prog (.func (.func 71) #[] #[]) [t16, t18] w fun t19 w =>
    ln1 t19 fun t22 =>
    S57L0 t1 t3 t6 t19 t22 R w
  )

def A57 : Ann where
  live := fun
    | 0 => [23]
    | _ => []
  wr := fun
    | 0 => fun i => (Nat.ble 11 i && Nat.ble i 12) || (Nat.ble 23 i && Nat.ble i 43)
    | _ => fun _ => false
  sched := fun _ => .done

set_option maxRecDepth 100000 in
theorem ok57 : (codeOk Tryd.f57.ntmps A57 (Tryd.f57.body.getD .skip) 0 && Nat.ble 4 Tryd.f57.ntmps) = true := by kernel_rfl
set_option maxRecDepth 100000 in
theorem lift57 {t0 t1 t2 t3 : Value} {w : World} {R : Ending → World → Prop} (h : S57 t0 t1 t2 t3 w R) : Calls Tryd.prog 57 #[t0, t1, t2, t3] w R :=
  calls_of_cw (fn := Tryd.f57) (c := Tryd.f57.body.getD .skip) A57 mixes Tryd.func57 (by kernel_rfl) ok57
    ((by kernel_rfl : (S57 t0 t1 t2 t3 w R) = cw Tryd.prog A57 (Tryd.f57.body.getD .skip) 0 (bodyQ Tryd.prog Tryd.f57 R) (frOf #[t0, t1, t2, t3]) w).mp h)

def S72 (t0 t1 : Value) (w : World) (R : Ending → World → Prop) : Prop :=
  ld1 w t1 fun t5 =>
  binQ Tryd.prog w .gtr 3 false t0 t5 fun t6 =>
  condW t6 (
    binQ Tryd.prog w .sub 3 true t0 (.int .i64 1) fun t8 =>
    R (.returned t8) w
  ) (
    R (.returned t0) w
  )

def A72 : Ann where
  live := fun _ => []
  wr := fun _ _ => false
  sched := fun _ => .done

set_option maxRecDepth 100000 in
theorem ok72 : (codeOk Tryd.f72.ntmps A72 (Tryd.f72.body.getD .skip) 0 && Nat.ble 2 Tryd.f72.ntmps) = true := by kernel_rfl
set_option maxRecDepth 100000 in
theorem lift72 {t0 t1 : Value} {w : World} {R : Ending → World → Prop} (h : S72 t0 t1 w R) : Calls Tryd.prog 72 #[t0, t1] w R :=
  calls_of_cw (fn := Tryd.f72) (c := Tryd.f72.body.getD .skip) A72 mixes Tryd.func72 (by kernel_rfl) ok72
    ((by kernel_rfl : (S72 t0 t1 w R) = cw Tryd.prog A72 (Tryd.f72.body.getD .skip) 0 (bodyQ Tryd.prog Tryd.f72 R) (frOf #[t0, t1]) w).mp h)

def S24 (t0 t1 : Value) (w : World) (R : Ending → World → Prop) : Prop :=
  callW Tryd.prog (.func (.func 58) #[] #[]) [t0, t1] w fun t11 w =>
  exQ t11 0 fun t12 =>
  exQ t11 1 fun t13 =>
  boxW 80 (.agg #[(.int .i64 0), (.slice none 0 0)]) w fun t6 w =>
  stW Tryd.prog 80 t6 t12 w fun w =>
  binQ Tryd.prog w .neq 24 true t13 (.int .i64 0) fun t15 =>
  condW t15 (
    R (.returned (.tuple #[(.int .i64 0), t13])) w
  ) (
    ldN 2 w t6 fun t17 =>
    callW Tryd.prog (.func (.func 55) #[] #[]) [t17] w fun t18 w =>
    R (.returned (.tuple #[t18, (.int .i64 0)])) w
  )

def A24 : Ann where
  live := fun _ => []
  wr := fun _ _ => false
  sched := fun _ => .done

set_option maxRecDepth 100000 in
theorem ok24 : (codeOk Tryd.f24.ntmps A24 (Tryd.f24.body.getD .skip) 0 && Nat.ble 2 Tryd.f24.ntmps) = true := by kernel_rfl
set_option maxRecDepth 100000 in
theorem lift24 {t0 t1 : Value} {w : World} {R : Ending → World → Prop} (h : S24 t0 t1 w R) : Calls Tryd.prog 24 #[t0, t1] w R :=
  calls_of_cw (fn := Tryd.f24) (c := Tryd.f24.body.getD .skip) A24 mixes Tryd.func24 (by kernel_rfl) ok24
    ((by kernel_rfl : (S24 t0 t1 w R) = cw Tryd.prog A24 (Tryd.f24.body.getD .skip) 0 (bodyQ Tryd.prog Tryd.f24 R) (frOf #[t0, t1]) w).mp h)

def S26 (t0 t1 t2 t3 : Value) (w : World) (R : Ending → World → Prop) : Prop :=
  callW Tryd.prog (.func (.func 54) #[] #[]) [t0, t1, t2, t3] w fun t17 w =>
  exQ t17 0 fun t18 =>
  exQ t17 1 fun t19 =>
  boxW 80 (.agg #[(.int .i64 0), (.slice none 0 0)]) w fun t10 w =>
  stW Tryd.prog 80 t10 t18 w fun w =>
  binQ Tryd.prog w .neq 24 true t19 (.int .i64 0) fun t21 =>
  condW t21 (
    R (.returned (.tuple #[(.int .i64 0), t19])) w
  ) (
    ldN 2 w t10 fun t23 =>
    callW Tryd.prog (.func (.func 56) #[] #[]) [t23, t2, t3] w fun t26 w =>
    R (.returned (.tuple #[t26, (.int .i64 0)])) w
  )

def A26 : Ann where
  live := fun _ => []
  wr := fun _ _ => false
  sched := fun _ => .done

set_option maxRecDepth 100000 in
theorem ok26 : (codeOk Tryd.f26.ntmps A26 (Tryd.f26.body.getD .skip) 0 && Nat.ble 4 Tryd.f26.ntmps) = true := by kernel_rfl
set_option maxRecDepth 100000 in
theorem lift26 {t0 t1 t2 t3 : Value} {w : World} {R : Ending → World → Prop} (h : S26 t0 t1 t2 t3 w R) : Calls Tryd.prog 26 #[t0, t1, t2, t3] w R :=
  calls_of_cw (fn := Tryd.f26) (c := Tryd.f26.body.getD .skip) A26 mixes Tryd.func26 (by kernel_rfl) ok26
    ((by kernel_rfl : (S26 t0 t1 t2 t3 w R) = cw Tryd.prog A26 (Tryd.f26.body.getD .skip) 0 (bodyQ Tryd.prog Tryd.f26 R) (frOf #[t0, t1, t2, t3]) w).mp h)

def S22L1 (t1 t8 t12 t41 t56 : Value) (R : Ending → World → Prop) (w : World) : Prop :=
  Loop1 (.int .i64 0) w fun _ t57 w next_2 =>
    binQ Tryd.prog w .lss 3 false t57 t56 fun t58 =>
    condW t58 (
      iaS 2 t1 t57 fun t59 =>
      ldN 2 w t59 fun t60 =>
      boxW 40 (.agg #[(.int .i64 0), (.int .i64 0)]) w fun t16 w =>
      stW Tryd.prog 40 t16 t60 w fun w =>
      Drew w fun w =>
      fa1 t12 0 fun t61 =>
      ld1 w t61 fun t62 =>
      fa1 t16 0 fun t64 =>
      ld1 w t64 fun t65 =>
      iaS 1 t41 t65 fun t66 =>
      ld1 w t66 fun t67 =>
      fa1 t16 1 fun t69 =>
      ld1 w t69 fun t70 =>
      iaS 1 t41 t70 fun t71 =>
      ld1 w t71 fun t72 =>
      binQ Tryd.prog w .sub 3 false t67 t72 fun t73 =>
      bsW Tryd.prog 34 1 [(0, t73)] w <| keepB w fun t74 w =>
      semW Tryd.prog (apS [34, 34] 34 [t62, t74]) w fun t75 w =>
      fa1 t12 0 fun t76 =>
      stW Tryd.prog 34 t76 t75 w fun w =>
      binQ Tryd.prog w .add 3 true t57 (.int .i64 1) fun t77 =>
      next_2 t77 w
    ) (
      ldN 3 w t12 fun t78 =>
      stW Tryd.prog 36 t8 t78 w fun w =>
      ldN 3 w t8 fun r_3 =>
      R (.returned (.tuple #[r_3, (.int .i64 0)])) w
    )

def S22L0 (t0 t1 t2 t3 t8 t10 t12 t41 : Value) (R : Ending → World → Prop) (w : World) : Prop :=
  Loop1 (.int .i64 0) w fun _ t43 w next =>
    binQ Tryd.prog w .lss 3 false t43 t0 fun t44 =>
    condW t44 (
      ldN 2 w t10 fun t48 =>
      callW Tryd.prog (.func (.func 57) #[] #[]) [t48, t2, t3, t43] w fun t52 w =>
      iaS 1 t41 t43 fun t53 =>
      stW Tryd.prog 3 t53 t52 w fun w =>
      binQ Tryd.prog w .add 3 true t43 (.int .i64 1) fun t54 =>
      next t54 w
    ) (
      ln1 t1 fun t56 =>
      S22L1 t1 t8 t12 t41 t56 R w
    )

def S22 (t0 t1 t2 t3 : Value) (w : World) (R : Ending → World → Prop) : Prop :=
  boxW 36 (.agg #[(.slice none 0 0), (.int .i64 0), (.int .i64 0)]) w fun t8 w =>
  callW Tryd.prog (.func (.func 54) #[] #[]) [t0, t1, t2, t3] w fun t22 w =>
  exQ t22 0 fun t23 =>
  exQ t22 1 fun t24 =>
  boxW 80 (.agg #[(.int .i64 0), (.slice none 0 0)]) w fun t10 w =>
  stW Tryd.prog 80 t10 t23 w fun w =>
  binQ Tryd.prog w .neq 24 true t24 (.int .i64 0) fun t26 =>
  condW t26 (
    bdQ Tryd.prog 36 [] fun t27 =>
    stW Tryd.prog 36 t8 t27 w fun w =>
    ldN 3 w t8 fun r =>
    R (.returned (.tuple #[r, t24])) w
  ) (
    Drew w fun w =>
    Join (fun (k_2 : Value → World → Prop) =>
      ldN 2 w t10 fun t29 =>
      ldN 2 w t10 fun t31 =>
      And (
        callW Tryd.prog (.func (.func 55) #[] #[]) [t29] w <| keepB w fun t30 w =>
        And (
          callW Tryd.prog (.func (.func 56) #[] #[]) [t31, t2, t3] w <| keepB w fun t34 w =>
          bdQ Tryd.prog 36 [(1, t30), (2, t34)] fun t35 =>
          boxW 36 (.agg #[(.slice none 0 0), (.int .i64 0), (.int .i64 0)]) w <| keepB w fun t12_2 w =>
          stW Tryd.prog 36 t12_2 t35 w fun w =>
          k_2 t12_2 w
        ) <|
        And (
          boxW 36 (.agg #[(.slice none 0 0), (.int .i64 0), (.int .i64 0)]) w <| keepB w fun t12_3 w =>
          callW Tryd.prog (.func (.func 56) #[] #[]) [t31, t2, t3] w <| keepB w fun t34_2 w =>
          bdQ Tryd.prog 36 [(1, t30), (2, t34_2)] fun t35_2 =>
          stW Tryd.prog 36 t12_3 t35_2 w fun w =>
          k_2 t12_3 w
        ) <|
        True
      ) <|
      And (
        boxW 36 (.agg #[(.slice none 0 0), (.int .i64 0), (.int .i64 0)]) w <| keepB w fun t12_4 w =>
        callW Tryd.prog (.func (.func 55) #[] #[]) [t29] w <| keepB w fun t30_2 w =>
        callW Tryd.prog (.func (.func 56) #[] #[]) [t31, t2, t3] w <| keepB w fun t34_3 w =>
        bdQ Tryd.prog 36 [(1, t30_2), (2, t34_3)] fun t35_3 =>
        stW Tryd.prog 36 t12_4 t35_3 w fun w =>
        k_2 t12_4 w
      ) <|
      True
    ) fun t12 w =>
    fa1 t12 1 fun t36 =>
    ld1 w t36 fun t37 =>
    binQ Tryd.prog w .eql 3 true t37 (.int .i64 0) fun t38 =>
    condW t38 (
      bdQ Tryd.prog 36 [] fun t39 =>
      stW Tryd.prog 36 t8 t39 w fun w =>
      ldN 3 w t8 fun r_2 =>
      R (.returned (.tuple #[r_2, (.int .i64 10)])) w
    ) (
      mkW Tryd.prog 34 t0 t0 w fun t41 w =>
      S22L0 t0 t1 t2 t3 t8 t10 t12 t41 R w
    )
  )

def A22 : Ann where
  live := fun
    | 0 => [43]
    | 2 => [57]
    | _ => []
  wr := fun
    | 0 => fun i => Nat.beq i 14 || (Nat.ble 43 i && Nat.ble i 54)
    | 2 => fun i => Nat.beq i 16 || (Nat.ble 57 i && Nat.ble i 77)
    | _ => fun _ => false
  sched := fun
    | 4 => (.take 0 (.take 2 (.take 3 (.take 4 (.alt 1 (.alt 5 (.take 6 (.eff 7 (.bar 8 .done))) (.alt 7 (.eff 5 (.take 6 (.bar 8 .done))) .nomore)) (.alt 7 (.eff 1 (.eff 5 (.take 6 (.bar 8 .done)))) .nomore))))))
    | 16 => (.take 0 (.take 1 (.take 2 (.take 3 (.take 4 (.take 5 (.take 6 (.take 7 (.take 8 (.take 9 (.take 10 (.take 11 (.take 12 (.eff 13 (.bar 14 (.take 15 (.bar 16 .done)))))))))))))))))
    | _ => .done

set_option maxRecDepth 100000 in
theorem ok22 : (codeOk Tryd.f22.ntmps A22 (Tryd.f22.body.getD .skip) 0 && Nat.ble 4 Tryd.f22.ntmps) = true := by kernel_rfl
set_option maxRecDepth 100000 in
theorem lift22 {t0 t1 t2 t3 : Value} {w : World} {R : Ending → World → Prop} (h : S22 t0 t1 t2 t3 w R) : Calls Tryd.prog 22 #[t0, t1, t2, t3] w R :=
  calls_of_cw (fn := Tryd.f22) (c := Tryd.f22.body.getD .skip) A22 mixes Tryd.func22 (by kernel_rfl) ok22
    ((by kernel_rfl : (S22 t0 t1 t2 t3 w R) = cw Tryd.prog A22 (Tryd.f22.body.getD .skip) 0 (bodyQ Tryd.prog Tryd.f22 R) (frOf #[t0, t1, t2, t3]) w).mp h)

def S78L0 (t0 t1 t4 : Value) (R : Ending → World → Prop) (w : World) : Prop :=
  Loop2 t0 t1 w fun _ t5 t6 w next =>
    binQ Tryd.prog w .neq 3 true t6 (.int .i64 0) fun t10 =>
    condW t10 (
      Drew w fun w =>
      binQ Tryd.prog w .rem 3 false t5 t6 fun t14 =>
      next t6 t14 w
    ) (
      Drew w fun w =>
      binQ Tryd.prog w .quo 3 false t0 t5 fun t17 =>
      binQ Tryd.prog w .quo 3 false t1 t5 fun t20 =>
      bdQ Tryd.prog 58 [(0, t17), (1, t20)] fun t21 =>
      stW Tryd.prog 58 t4 t21 w fun w =>
      ldN 2 w t4 fun r =>
      R (.returned r) w
    )



def S78 (t0 t1 : Value) (w : World) (R : Ending → World → Prop) : Prop :=
  boxW 58 (.agg #[(.int .i64 0), (.int .i64 0)]) w fun t4 w =>
  S78L0 t0 t1 t4 R w

def A78 : Ann where
  live := fun
    | 0 => [5, 6]
    | _ => []
  wr := fun
    | 0 => fun i => (Nat.ble 5 i && Nat.ble i 6) || (Nat.ble 9 i && Nat.ble i 14)
    | _ => fun _ => false
  sched := fun
    | 3 => (.take 0 (.take 1 (.take 2 (.take 3 (.take 4 (.take 5 .done))))))
    | 4 => (.take 0 (.take 1 (.take 2 (.take 3 (.take 4 (.take 5 (.take 6 (.bar 7 .done))))))))
    | _ => .done

set_option maxRecDepth 100000 in
theorem ok78 : (codeOk Tryd.f78.ntmps A78 (Tryd.f78.body.getD .skip) 0 && Nat.ble 2 Tryd.f78.ntmps) = true := by kernel_rfl
set_option maxRecDepth 100000 in
theorem lift78 {t0 t1 : Value} {w : World} {R : Ending → World → Prop} (h : S78 t0 t1 w R) : Calls Tryd.prog 78 #[t0, t1] w R :=
  calls_of_cw (fn := Tryd.f78) (c := Tryd.f78.body.getD .skip) A78 mixes Tryd.func78 (by kernel_rfl) ok78
    ((by kernel_rfl : (S78 t0 t1 w R) = cw Tryd.prog A78 (Tryd.f78.body.getD .skip) 0 (bodyQ Tryd.prog Tryd.f78 R) (frOf #[t0, t1]) w).mp h)

def S62 (t0 t1 t2 : Value) (w : World) (R : Ending → World → Prop) : Prop :=
  boxW 80 t0 w fun t3 w =>
  boxW 58 (.agg #[(.int .i64 0), (.int .i64 0)]) w fun t6 w =>
  ldN 2 w t3 fun t9 =>
  callW Tryd.prog (.func (.func 55) #[] #[]) [t9] w fun t10 w =>
  binQ Tryd.prog w .eql 3 true t10 (.int .i64 0) fun t12 =>
  condW t12 (
    bdQ Tryd.prog 58 [] fun t13 =>
    stW Tryd.prog 58 t6 t13 w fun w =>
    ldN 2 w t6 fun r =>
    R (.returned (.tuple #[r, (.int .i64 10)])) w
  ) (
    ldN 2 w t3 fun t14 =>
    callW Tryd.prog (.func (.func 56) #[] #[]) [t14, t1, t2] w fun t17 w =>
    callW Tryd.prog (.func (.func 78) #[] #[]) [t17, t10] w fun t19 w =>
    stW Tryd.prog 58 t6 t19 w fun w =>
    ldN 2 w t6 fun r_2 =>
    R (.returned (.tuple #[r_2, (.int .i64 0)])) w
  )

def A62 : Ann where
  live := fun _ => []
  wr := fun _ _ => false
  sched := fun _ => .done

set_option maxRecDepth 100000 in
theorem ok62 : (codeOk Tryd.f62.ntmps A62 (Tryd.f62.body.getD .skip) 0 && Nat.ble 3 Tryd.f62.ntmps) = true := by kernel_rfl
set_option maxRecDepth 100000 in
theorem lift62 {t0 t1 t2 : Value} {w : World} {R : Ending → World → Prop} (h : S62 t0 t1 t2 w R) : Calls Tryd.prog 62 #[t0, t1, t2] w R :=
  calls_of_cw (fn := Tryd.f62) (c := Tryd.f62.body.getD .skip) A62 mixes Tryd.func62 (by kernel_rfl) ok62
    ((by kernel_rfl : (S62 t0 t1 t2 w R) = cw Tryd.prog A62 (Tryd.f62.body.getD .skip) 0 (bodyQ Tryd.prog Tryd.f62 R) (frOf #[t0, t1, t2]) w).mp h)

def S36 (t0 t1 t2 t3 : Value) (w : World) (R : Ending → World → Prop) : Prop :=
  boxW 58 (.agg #[(.int .i64 0), (.int .i64 0)]) w fun t8 w =>
  callW Tryd.prog (.func (.func 54) #[] #[]) [t0, t1, t2, t3] w fun t17 w =>
  exQ t17 0 fun t18 =>
  exQ t17 1 fun t19 =>
  boxW 80 (.agg #[(.int .i64 0), (.slice none 0 0)]) w fun t10 w =>
  stW Tryd.prog 80 t10 t18 w fun w =>
  binQ Tryd.prog w .neq 24 true t19 (.int .i64 0) fun t21 =>
  condW t21 (
    bdQ Tryd.prog 58 [] fun t22 =>
    stW Tryd.prog 58 t8 t22 w fun w =>
    ldN 2 w t8 fun r =>
    R (.returned (.tuple #[r, t19])) w
  ) (
    ldN 2 w t10 fun t24 =>
    callW Tryd.prog (.func (.func 62) #[] #[]) [t24, t2, t3] w fun t27 w =>
    exQ t27 0 fun t28 =>
    exQ t27 1 fun t29 =>
    stW Tryd.prog 58 t8 t28 w fun w =>
    ldN 2 w t8 fun r_2 =>
    R (.returned (.tuple #[r_2, t29])) w
  )

def A36 : Ann where
  live := fun _ => []
  wr := fun _ _ => false
  sched := fun _ => .done

set_option maxRecDepth 100000 in
theorem ok36 : (codeOk Tryd.f36.ntmps A36 (Tryd.f36.body.getD .skip) 0 && Nat.ble 4 Tryd.f36.ntmps) = true := by kernel_rfl
set_option maxRecDepth 100000 in
theorem lift36 {t0 t1 t2 t3 : Value} {w : World} {R : Ending → World → Prop} (h : S36 t0 t1 t2 t3 w R) : Calls Tryd.prog 36 #[t0, t1, t2, t3] w R :=
  calls_of_cw (fn := Tryd.f36) (c := Tryd.f36.body.getD .skip) A36 mixes Tryd.func36 (by kernel_rfl) ok36
    ((by kernel_rfl : (S36 t0 t1 t2 t3 w R) = cw Tryd.prog A36 (Tryd.f36.body.getD .skip) 0 (bodyQ Tryd.prog Tryd.f36 R) (frOf #[t0, t1, t2, t3]) w).mp h)

def S39 (t0 t1 t2 : Value) (w : World) (R : Ending → World → Prop) : Prop :=
  boxW 58 (.agg #[(.int .i64 0), (.int .i64 0)]) w fun t6 w =>
  callW Tryd.prog (.func (.func 58) #[] #[]) [t0, t1] w fun t13 w =>
  exQ t13 0 fun t14 =>
  exQ t13 1 fun t15 =>
  boxW 80 (.agg #[(.int .i64 0), (.slice none 0 0)]) w fun t8 w =>
  stW Tryd.prog 80 t8 t14 w fun w =>
  binQ Tryd.prog w .neq 24 true t15 (.int .i64 0) fun t18 =>
  condW t18 (
    bdQ Tryd.prog 58 [] fun t19 =>
    stW Tryd.prog 58 t6 t19 w fun w =>
    ldN 2 w t6 fun r =>
    R (.returned (.tuple #[r, t15])) w
  ) (
    binQ Tryd.prog w .lss 3 true t2 (.int .i64 0) fun t23 =>
    gd t23 false (fun k => k t2 w) w fun t25 w =>
    gd t23 false (fun k => k t1 w) w fun t26 w =>
    gd t23 false (fun k => ln1 t26 fun v => k v w) w fun t27 w =>
    gd t23 false (fun k => binQ Tryd.prog w .geq 3 false t25 t27 fun v => k v w) w fun t28 w =>
    pickQ t23 (.bool true) t28 fun t29 =>
    condW t29 (
      bdQ Tryd.prog 58 [] fun t30 =>
      stW Tryd.prog 58 t6 t30 w fun w =>
      ldN 2 w t6 fun r_2 =>
      R (.returned (.tuple #[r_2, (.int .i64 6)])) w
    ) (
      Drew w fun w =>
      ldN 2 w t8 fun t31 =>
      iaS 2 t1 t2 fun t34 =>
      fa1 t34 0 fun t35 =>
      ld1 w t35 fun t36 =>
      iaS 2 t1 t2 fun t39 =>
      fa1 t39 1 fun t40 =>
      ld1 w t40 fun t41 =>
      callW Tryd.prog (.func (.func 62) #[] #[]) [t31, t36, t41] w fun t42 w =>
      exQ t42 0 fun t43 =>
      exQ t42 1 fun t44 =>
      stW Tryd.prog 58 t6 t43 w fun w =>
      ldN 2 w t6 fun r_3 =>
      R (.returned (.tuple #[r_3, t44])) w
    )
  )

def A39 : Ann where
  live := fun _ => []
  wr := fun _ _ => false
  sched := fun
    | 6 => (.take 0 (.take 1 (.take 2 (.take 3 (.take 4 (.take 5 (.take 6 (.take 7 (.take 8 (.take 9 (.take 10 (.bar 11 (.take 12 (.take 13 (.bar 14 (.take 15 .done))))))))))))))))
    | _ => .done

set_option maxRecDepth 100000 in
theorem ok39 : (codeOk Tryd.f39.ntmps A39 (Tryd.f39.body.getD .skip) 0 && Nat.ble 3 Tryd.f39.ntmps) = true := by kernel_rfl
set_option maxRecDepth 100000 in
theorem lift39 {t0 t1 t2 : Value} {w : World} {R : Ending → World → Prop} (h : S39 t0 t1 t2 w R) : Calls Tryd.prog 39 #[t0, t1, t2] w R :=
  calls_of_cw (fn := Tryd.f39) (c := Tryd.f39.body.getD .skip) A39 mixes Tryd.func39 (by kernel_rfl) ok39
    ((by kernel_rfl : (S39 t0 t1 t2 w R) = cw Tryd.prog A39 (Tryd.f39.body.getD .skip) 0 (bodyQ Tryd.prog Tryd.f39 R) (frOf #[t0, t1, t2]) w).mp h)

theorem fok58 : fnOk Tryd.prog 58 = true := by kernel_rfl
theorem fok74 : fnOk Tryd.prog 74 = true := by kernel_rfl
theorem fok73 : fnOk Tryd.prog 73 = true := by kernel_rfl
theorem fok87 : fnOk Tryd.prog 87 = true := by kernel_rfl
theorem fok54 : fnOk Tryd.prog 54 = true := by kernel_rfl
theorem fok71 : fnOk Tryd.prog 71 = true := by kernel_rfl
theorem fok86 : fnOk Tryd.prog 86 = true := by kernel_rfl
theorem fok99 : fnOk Tryd.prog 99 = true := by kernel_rfl
theorem fok70 : fnOk Tryd.prog 70 = true := by kernel_rfl
theorem fok84 : fnOk Tryd.prog 84 = true := by kernel_rfl
theorem fok85 : fnOk Tryd.prog 85 = true := by kernel_rfl
theorem fok122 : fnOk Tryd.prog 122 = true := by kernel_rfl
theorem fok123 : fnOk Tryd.prog 123 = true := by kernel_rfl
theorem fok124 : fnOk Tryd.prog 124 = true := by kernel_rfl
theorem fok55 : fnOk Tryd.prog 55 = true := by kernel_rfl
theorem fok56 : fnOk Tryd.prog 56 = true := by kernel_rfl
theorem fok57 : fnOk Tryd.prog 57 = true := by kernel_rfl
theorem fok72 : fnOk Tryd.prog 72 = true := by kernel_rfl
theorem fok24 : fnOk Tryd.prog 24 = true := by kernel_rfl
theorem fok26 : fnOk Tryd.prog 26 = true := by kernel_rfl
theorem fok22 : fnOk Tryd.prog 22 = true := by kernel_rfl
theorem fok78 : fnOk Tryd.prog 78 = true := by kernel_rfl
theorem fok62 : fnOk Tryd.prog 62 = true := by kernel_rfl
theorem fok36 : fnOk Tryd.prog 36 = true := by kernel_rfl
theorem fok39 : fnOk Tryd.prog 39 = true := by kernel_rfl
end Go.Proofs.YtkdcldbedbagjaaDoor
