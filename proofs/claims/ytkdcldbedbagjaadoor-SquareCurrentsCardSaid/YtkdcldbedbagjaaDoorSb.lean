/- Lifted texts, printed by program (gen.py): what each function's code asks. The ties are by the kernel. -/
import Derived.Test.YtkdcldbedbagjaaDoorBase
set_option linter.all false
namespace Go.Proofs.YtkdcldbedbagjaaDoor
open Go.Lf Go.RowKit

def S42 (t0 : Value) (w : World) (R : Ending → World → Prop) : Prop :=
  binQ Tryd.prog w .geq 3 true t0 (.int .i64 1) fun t4 =>
  gd t4 true (fun k => k t0 w) w fun t6 w =>
  gd t4 true (fun k => binQ Tryd.prog w .leq 3 true t6 (.int .i64 1000) fun v => k v w) w fun t7 w =>
  pickQ t4 t7 (.bool false) fun t8 =>
  R (.returned t8) w

def A42 : Ann where
  live := fun _ => []
  wr := fun _ _ => false
  sched := fun _ => .done

set_option maxRecDepth 100000 in
theorem ok42 : (codeOk Tryd.f42.ntmps A42 (Tryd.f42.body.getD .skip) 0 && Nat.ble 1 Tryd.f42.ntmps) = true := by kernel_rfl
set_option maxRecDepth 100000 in
theorem lift42 {t0 : Value} {w : World} {R : Ending → World → Prop} (h : S42 t0 w R) : Calls Tryd.prog 42 #[t0] w R :=
  calls_of_cw (fn := Tryd.f42) (c := Tryd.f42.body.getD .skip) A42 mixes Tryd.func42 (by kernel_rfl) ok42
    ((by kernel_rfl : (S42 t0 w R) = cw Tryd.prog A42 (Tryd.f42.body.getD .skip) 0 (bodyQ Tryd.prog Tryd.f42 R) (frOf #[t0]) w).mp h)

def S64 (t0 t1 t2 : Value) (w : World) (R : Ending → World → Prop) : Prop :=
  boxW 44 t2 w fun t5 w =>
  fa1 t5 2 fun t7 =>
  ld1 w t7 fun t8 =>
  binQ Tryd.prog w .geq 3 true t8 (.int .i64 1) fun t9 =>
  gd t9 true (fun k => fa1 t5 2 fun v => k v w) w fun t11 w =>
  gd t9 true (fun k => ld1 w t11 fun v => k v w) w fun t12 w =>
  gd t9 true (fun k => k t0 w) w fun t13 w =>
  gd t9 true (fun k => k t1 w) w fun t14 w =>
  gd t9 true (fun k => mnQ false [t13, t14] fun v => k v w) w fun t15 w =>
  gd t9 true (fun k => binQ Tryd.prog w .leq 3 false t12 t15 fun v => k v w) w fun t16 w =>
  pickQ t9 t16 (.bool false) fun t17 =>
  gd t17 true (fun k => fa1 t5 0 fun v => k v w) w fun t19 w =>
  gd t17 true (fun k => ld1 w t19 fun v => k v w) w fun t20 w =>
  gd t17 true (fun k => binQ Tryd.prog w .geq 3 true t20 (.int .i64 0) fun v => k v w) w fun t21 w =>
  pickQ t17 t21 (.bool false) fun t22 =>
  gd t22 true (fun k => fa1 t5 1 fun v => k v w) w fun t24 w =>
  gd t22 true (fun k => ld1 w t24 fun v => k v w) w fun t25 w =>
  gd t22 true (fun k => binQ Tryd.prog w .geq 3 true t25 (.int .i64 0) fun v => k v w) w fun t26 w =>
  pickQ t22 t26 (.bool false) fun t27 =>
  gd t27 true (fun k => fa1 t5 0 fun v => k v w) w fun t29 w =>
  gd t27 true (fun k => ld1 w t29 fun v => k v w) w fun t30 w =>
  gd t27 true (fun k => k t0 w) w fun t31 w =>
  gd t27 true (fun k => fa1 t5 2 fun v => k v w) w fun t32 w =>
  gd t27 true (fun k => ld1 w t32 fun v => k v w) w fun t33 w =>
  gd t27 true (fun k => binQ Tryd.prog w .sub 3 false t31 t33 fun v => k v w) w fun t34 w =>
  gd t27 true (fun k => binQ Tryd.prog w .leq 3 false t30 t34 fun v => k v w) w fun t35 w =>
  pickQ t27 t35 (.bool false) fun t36 =>
  gd t36 true (fun k => fa1 t5 1 fun v => k v w) w fun t38 w =>
  gd t36 true (fun k => ld1 w t38 fun v => k v w) w fun t39 w =>
  gd t36 true (fun k => k t1 w) w fun t40 w =>
  gd t36 true (fun k => fa1 t5 2 fun v => k v w) w fun t41 w =>
  gd t36 true (fun k => ld1 w t41 fun v => k v w) w fun t42 w =>
  gd t36 true (fun k => binQ Tryd.prog w .sub 3 false t40 t42 fun v => k v w) w fun t43 w =>
  gd t36 true (fun k => binQ Tryd.prog w .leq 3 false t39 t43 fun v => k v w) w fun t44 w =>
  pickQ t36 t44 (.bool false) fun t45 =>
  R (.returned t45) w

def A64 : Ann where
  live := fun _ => []
  wr := fun _ _ => false
  sched := fun _ => .done

set_option maxRecDepth 100000 in
theorem ok64 : (codeOk Tryd.f64.ntmps A64 (Tryd.f64.body.getD .skip) 0 && Nat.ble 3 Tryd.f64.ntmps) = true := by kernel_rfl
set_option maxRecDepth 100000 in
theorem lift64 {t0 t1 t2 : Value} {w : World} {R : Ending → World → Prop} (h : S64 t0 t1 t2 w R) : Calls Tryd.prog 64 #[t0, t1, t2] w R :=
  calls_of_cw (fn := Tryd.f64) (c := Tryd.f64.body.getD .skip) A64 mixes Tryd.func64 (by kernel_rfl) ok64
    ((by kernel_rfl : (S64 t0 t1 t2 w R) = cw Tryd.prog A64 (Tryd.f64.body.getD .skip) 0 (bodyQ Tryd.prog Tryd.f64 R) (frOf #[t0, t1, t2]) w).mp h)

def S43L1 (t7 t9 t14 t26 t27 : Value) (next : Value → Value → World → Prop) (R : Ending → World → Prop) (w : World) : Prop :=
  Loop1 (.int .i64 0) w fun _ t28 w next_2 =>
    binQ Tryd.prog w .lss 3 false t28 t27 fun t29 =>
    condW t29 (
      iaS 3 t26 t28 fun t30 =>
      ldN 3 w t30 fun t31 =>
      boxW 44 (.agg #[(.int .i64 0), (.int .i64 0), (.int .i64 0)]) w fun t11 w =>
      stW Tryd.prog 44 t11 t31 w fun w =>
      fa1 t9 0 fun t32 =>
      ld1 w t32 fun t33 =>
      fa1 t11 0 fun t34 =>
      ld1 w t34 fun t35 =>
      fa1 t11 2 fun t36 =>
      ld1 w t36 fun t37 =>
      binQ Tryd.prog w .add 3 false t35 t37 fun t38 =>
      binQ Tryd.prog w .lss 3 false t33 t38 fun t39 =>
      gd t39 true (fun k => fa1 t11 0 fun v => k v w) w fun t41 w =>
      gd t39 true (fun k => ld1 w t41 fun v => k v w) w fun t42 w =>
      gd t39 true (fun k => fa1 t9 0 fun v => k v w) w fun t43 w =>
      gd t39 true (fun k => ld1 w t43 fun v => k v w) w fun t44 w =>
      gd t39 true (fun k => fa1 t9 2 fun v => k v w) w fun t45 w =>
      gd t39 true (fun k => ld1 w t45 fun v => k v w) w fun t46 w =>
      gd t39 true (fun k => binQ Tryd.prog w .add 3 false t44 t46 fun v => k v w) w fun t47 w =>
      gd t39 true (fun k => binQ Tryd.prog w .lss 3 false t42 t47 fun v => k v w) w fun t48 w =>
      pickQ t39 t48 (.bool false) fun t49 =>
      gd t49 true (fun k => fa1 t9 1 fun v => k v w) w fun t51 w =>
      gd t49 true (fun k => ld1 w t51 fun v => k v w) w fun t52 w =>
      gd t49 true (fun k => fa1 t11 1 fun v => k v w) w fun t53 w =>
      gd t49 true (fun k => ld1 w t53 fun v => k v w) w fun t54 w =>
      gd t49 true (fun k => fa1 t11 2 fun v => k v w) w fun t55 w =>
      gd t49 true (fun k => ld1 w t55 fun v => k v w) w fun t56 w =>
      gd t49 true (fun k => binQ Tryd.prog w .add 3 false t54 t56 fun v => k v w) w fun t57 w =>
      gd t49 true (fun k => binQ Tryd.prog w .lss 3 false t52 t57 fun v => k v w) w fun t58 w =>
      pickQ t49 t58 (.bool false) fun t59 =>
      gd t59 true (fun k => fa1 t11 1 fun v => k v w) w fun t61 w =>
      gd t59 true (fun k => ld1 w t61 fun v => k v w) w fun t62 w =>
      gd t59 true (fun k => fa1 t9 1 fun v => k v w) w fun t63 w =>
      gd t59 true (fun k => ld1 w t63 fun v => k v w) w fun t64 w =>
      gd t59 true (fun k => fa1 t9 2 fun v => k v w) w fun t65 w =>
      gd t59 true (fun k => ld1 w t65 fun v => k v w) w fun t66 w =>
      gd t59 true (fun k => binQ Tryd.prog w .add 3 false t64 t66 fun v => k v w) w fun t67 w =>
      gd t59 true (fun k => binQ Tryd.prog w .lss 3 false t62 t67 fun v => k v w) w fun t68 w =>
      pickQ t59 t68 (.bool false) fun t69 =>
      condW t69 (
        R (.returned (.bool false)) w
      ) (
        binQ Tryd.prog w .add 3 true t28 (.int .i64 1) fun t70 =>
        next_2 t70 w
      )
    ) (
      fa1 t9 2 fun t72 =>
      ld1 w t72 fun t73 =>
      fa1 t9 2 fun t74 =>
      ld1 w t74 fun t75 =>
      binQ Tryd.prog w .mul 3 false t73 t75 fun t76 =>
      binQ Tryd.prog w .add 3 false t7 t76 fun t77 =>
      binQ Tryd.prog w .add 3 true t14 (.int .i64 1) fun t78 =>
      next t77 t78 w
    )

def S43L0 (t0 t1 t2 t13 : Value) (R : Ending → World → Prop) (w : World) : Prop :=
  Loop2 (.int .i64 0) (.int .i64 0) w fun _ t7 t14 w next =>
    binQ Tryd.prog w .lss 3 false t14 t13 fun t15 =>
    condW t15 (
      iaS 3 t2 t14 fun t17 =>
      ldN 3 w t17 fun t18 =>
      boxW 44 (.agg #[(.int .i64 0), (.int .i64 0), (.int .i64 0)]) w fun t9 w =>
      stW Tryd.prog 44 t9 t18 w fun w =>
      ldN 3 w t9 fun t21 =>
      callW Tryd.prog (.func (.func 64) #[] #[]) [t0, t1, t21] w fun t22 w =>
      unQ .not t22 fun t23 =>
      condW t23 (
        R (.returned (.bool false)) w
      ) (
        slS 3 t2 none (some t14) fun t26 =>
        ln1 t26 fun t27 =>
        S43L1 t7 t9 t14 t26 t27 next R w
      )
    ) (
      binQ Tryd.prog w .mul 3 false t0 t1 fun t82 =>
      binQ Tryd.prog w .eql 3 false t7 t82 fun t83 =>
      R (.returned t83) w
    )



def S43 (t0 t1 t2 : Value) (w : World) (R : Ending → World → Prop) : Prop :=
  ln1 t2 fun t13 =>
  S43L0 t0 t1 t2 t13 R w

def A43 : Ann where
  live := fun
    | 0 => [7, 14]
    | 2 => [28]
    | _ => []
  wr := fun
    | 0 => fun i => (Nat.ble 6 i && Nat.ble i 9) || Nat.beq i 11 || (Nat.ble 14 i && Nat.ble i 78)
    | 2 => fun i => Nat.beq i 6 || Nat.beq i 11 || (Nat.ble 28 i && Nat.ble i 70)
    | _ => fun _ => false
  sched := fun _ => .done

set_option maxRecDepth 100000 in
theorem ok43 : (codeOk Tryd.f43.ntmps A43 (Tryd.f43.body.getD .skip) 0 && Nat.ble 3 Tryd.f43.ntmps) = true := by kernel_rfl
set_option maxRecDepth 100000 in
theorem lift43 {t0 t1 t2 : Value} {w : World} {R : Ending → World → Prop} (h : S43 t0 t1 t2 w R) : Calls Tryd.prog 43 #[t0, t1, t2] w R :=
  calls_of_cw (fn := Tryd.f43) (c := Tryd.f43.body.getD .skip) A43 mixes Tryd.func43 (by kernel_rfl) ok43
    ((by kernel_rfl : (S43 t0 t1 t2 w R) = cw Tryd.prog A43 (Tryd.f43.body.getD .skip) 0 (bodyQ Tryd.prog Tryd.f43 R) (frOf #[t0, t1, t2]) w).mp h)

def S15 (t0 t1 t2 : Value) (w : World) (R : Ending → World → Prop) : Prop :=
  callW Tryd.prog (.func (.func 42) #[] #[]) [t0] w fun t10 w =>
  unQ .not t10 fun t11 =>
  gd t11 false (fun k => k t1 w) w fun t13 w =>
  gd t11 false (fun k => callW Tryd.prog (.func (.func 42) #[] #[]) [t13] w k) w fun t14 w =>
  gd t11 false (fun k => unQ .not t14 fun v => k v w) w fun t15 w =>
  pickQ t11 (.bool true) t15 fun t16 =>
  condW t16 (
    R (.returned (.tuple #[(.bool false), (.int .i64 2)])) w
  ) (
    ln1 t2 fun t19 =>
    binQ Tryd.prog w .gtr 3 true t19 (.int .i64 16) fun t20 =>
    condW t20 (
      R (.returned (.tuple #[(.bool false), (.int .i64 3)])) w
    ) (
      callW Tryd.prog (.func (.func 43) #[] #[]) [t0, t1, t2] w fun t24 w =>
      R (.returned (.tuple #[t24, (.int .i64 0)])) w
    )
  )

def A15 : Ann where
  live := fun _ => []
  wr := fun _ _ => false
  sched := fun _ => .done

set_option maxRecDepth 100000 in
theorem ok15 : (codeOk Tryd.f15.ntmps A15 (Tryd.f15.body.getD .skip) 0 && Nat.ble 3 Tryd.f15.ntmps) = true := by kernel_rfl
set_option maxRecDepth 100000 in
theorem lift15 {t0 t1 t2 : Value} {w : World} {R : Ending → World → Prop} (h : S15 t0 t1 t2 w R) : Calls Tryd.prog 15 #[t0, t1, t2] w R :=
  calls_of_cw (fn := Tryd.f15) (c := Tryd.f15.body.getD .skip) A15 mixes Tryd.func15 (by kernel_rfl) ok15
    ((by kernel_rfl : (S15 t0 t1 t2 w R) = cw Tryd.prog A15 (Tryd.f15.body.getD .skip) 0 (bodyQ Tryd.prog Tryd.f15 R) (frOf #[t0, t1, t2]) w).mp h)

def S68 (t0 t1 : Value) (w : World) (R : Ending → World → Prop) : Prop :=
  callW Tryd.prog (.func (.func 82) #[] #[]) [t0] w fun t8 w =>
  callW Tryd.prog (.func (.func 82) #[] #[]) [t1] w fun t10 w =>
  condW t8 (
    condW t10 (
      R (.returned (.int .i64 0)) w
    ) (
      R (.returned (.int .i64 (-1))) w
    )
  ) (
    condW t10 (
      R (.returned (.int .i64 1)) w
    ) (
      binQ Tryd.prog w .lss 3 false t0 t1 fun t16 =>
      condW t16 (
        R (.returned (.int .i64 (-1))) w
      ) (
        binQ Tryd.prog w .gtr 3 false t0 t1 fun t19 =>
        condW t19 (
          R (.returned (.int .i64 1)) w
        ) (
          R (.returned (.int .i64 0)) w
        )
      )
    )
  )

def A68 : Ann where
  live := fun _ => []
  wr := fun _ _ => false
  sched := fun _ => .done

set_option maxRecDepth 100000 in
theorem ok68 : (codeOk Tryd.f68.ntmps A68 (Tryd.f68.body.getD .skip) 0 && Nat.ble 2 Tryd.f68.ntmps) = true := by kernel_rfl
set_option maxRecDepth 100000 in
theorem lift68 {t0 t1 : Value} {w : World} {R : Ending → World → Prop} (h : S68 t0 t1 w R) : Calls Tryd.prog 68 #[t0, t1] w R :=
  calls_of_cw (fn := Tryd.f68) (c := Tryd.f68.body.getD .skip) A68 mixes Tryd.func68 (by kernel_rfl) ok68
    ((by kernel_rfl : (S68 t0 t1 w R) = cw Tryd.prog A68 (Tryd.f68.body.getD .skip) 0 (bodyQ Tryd.prog Tryd.f68 R) (frOf #[t0, t1]) w).mp h)

def S82 (t0 : Value) (w : World) (R : Ending → World → Prop) : Prop :=
  binQ Tryd.prog w .neq 3 false t0 t0 fun t5 =>
  R (.returned t5) w

def A82 : Ann where
  live := fun _ => []
  wr := fun _ _ => false
  sched := fun _ => .done

set_option maxRecDepth 100000 in
theorem ok82 : (codeOk Tryd.f82.ntmps A82 (Tryd.f82.body.getD .skip) 0 && Nat.ble 1 Tryd.f82.ntmps) = true := by kernel_rfl
set_option maxRecDepth 100000 in
theorem lift82 {t0 : Value} {w : World} {R : Ending → World → Prop} (h : S82 t0 w R) : Calls Tryd.prog 82 #[t0] w R :=
  calls_of_cw (fn := Tryd.f82) (c := Tryd.f82.body.getD .skip) A82 mixes Tryd.func82 (by kernel_rfl) ok82
    ((by kernel_rfl : (S82 t0 w R) = cw Tryd.prog A82 (Tryd.f82.body.getD .skip) 0 (bodyQ Tryd.prog Tryd.f82 R) (frOf #[t0]) w).mp h)

def S67L0 (t0 t7 : Value) (R : Ending → World → Prop) (w : World) : Prop :=
  Loop1 (.int .i64 0) w fun _ t8 w next =>
    binQ Tryd.prog w .lss 3 false t8 t7 fun t9 =>
    condW t9 (
      iaS 1 t0 t8 fun t10 =>
      ld1 w t10 fun t11 =>
      binQ Tryd.prog w .neq 3 false t11 (.int .i64 0) fun t14 =>
      condW t14 (
        R (.returned t11) w
      ) (
        binQ Tryd.prog w .add 3 true t8 (.int .i64 1) fun t16 =>
        next t16 w
      )
    ) (
      R (.returned (.int .i64 0)) w
    )



def S67 (t0 : Value) (w : World) (R : Ending → World → Prop) : Prop :=
  ln1 t0 fun t7 =>
  S67L0 t0 t7 R w

def A67 : Ann where
  live := fun
    | 0 => [8]
    | _ => []
  wr := fun
    | 0 => fun i => Nat.beq i 2 || Nat.beq i 5 || (Nat.ble 8 i && Nat.ble i 16)
    | _ => fun _ => false
  sched := fun _ => .done

set_option maxRecDepth 100000 in
theorem ok67 : (codeOk Tryd.f67.ntmps A67 (Tryd.f67.body.getD .skip) 0 && Nat.ble 1 Tryd.f67.ntmps) = true := by kernel_rfl
set_option maxRecDepth 100000 in
theorem lift67 {t0 : Value} {w : World} {R : Ending → World → Prop} (h : S67 t0 w R) : Calls Tryd.prog 67 #[t0] w R :=
  calls_of_cw (fn := Tryd.f67) (c := Tryd.f67.body.getD .skip) A67 mixes Tryd.func67 (by kernel_rfl) ok67
    ((by kernel_rfl : (S67 t0 w R) = cw Tryd.prog A67 (Tryd.f67.body.getD .skip) 0 (bodyQ Tryd.prog Tryd.f67 R) (frOf #[t0]) w).mp h)

def S66 (t0 t1 : Value) (w : World) (R : Ending → World → Prop) : Prop :=
  boxW 71 t0 w fun t2 w =>
  boxW 71 t1 w fun t3 w =>
  Drew w fun w =>
  fa1 t2 0 fun t5 =>
  ld1 w t5 fun t6 =>
  fa1 t3 0 fun t7 =>
  ld1 w t7 fun t8 =>
  fa1 t2 1 fun t10 =>
  ld1 w t10 fun t11 =>
  fa1 t3 1 fun t12 =>
  ld1 w t12 fun t13 =>
  callW Tryd.prog (.func (.func 68) #[] #[]) [t6, t8] w <| keepB w fun t9 w =>
  callW Tryd.prog (.func (.func 68) #[] #[]) [t11, t13] w fun t14 w =>
  bsW Tryd.prog 34 2 [(0, t9), (1, t14)] w fun t15 w =>
  callW Tryd.prog (.func (.func 67) #[] #[]) [t15] w fun t16 w =>
  R (.returned t16) w

def A66 : Ann where
  live := fun _ => []
  wr := fun _ _ => false
  sched := fun
    | 1 => (.take 0 (.take 1 (.take 2 (.take 3 (.take 5 (.take 6 (.take 7 (.take 8 (.eff 4 (.bar 9 (.bar 10 (.bar 11 (.take 12 .done)))))))))))))
    | _ => .done

set_option maxRecDepth 100000 in
theorem ok66 : (codeOk Tryd.f66.ntmps A66 (Tryd.f66.body.getD .skip) 0 && Nat.ble 2 Tryd.f66.ntmps) = true := by kernel_rfl
set_option maxRecDepth 100000 in
theorem lift66 {t0 t1 : Value} {w : World} {R : Ending → World → Prop} (h : S66 t0 t1 w R) : Calls Tryd.prog 66 #[t0, t1] w R :=
  calls_of_cw (fn := Tryd.f66) (c := Tryd.f66.body.getD .skip) A66 mixes Tryd.func66 (by kernel_rfl) ok66
    ((by kernel_rfl : (S66 t0 t1 w R) = cw Tryd.prog A66 (Tryd.f66.body.getD .skip) 0 (bodyQ Tryd.prog Tryd.f66 R) (frOf #[t0, t1]) w).mp h)

def S46L1 (t3 t46 : Value) (R : Ending → World → Prop) (w : World) : Prop :=
  Loop2 (.slice none 0 0) (.int .i64 0) w fun _ t6 t47 w next_2 =>
    binQ Tryd.prog w .lss 3 false t47 t46 fun t48 =>
    condW t48 (
      Join (fun (k_2 : Value → World → Prop) =>
        iaS 3 t3 t47 fun t49 =>
        ldN 3 w t49 fun t50 =>
        boxW 71 (.agg #[(.int .i64 0), (.int .i64 0), (.int .i64 0)]) w fun t8 w =>
        stW Tryd.prog 71 t8 t50 w fun w =>
        ln1 t6 fun t52 =>
        Drew w fun w =>
        binQ Tryd.prog w .gtr 3 true t52 (.int .i64 0) fun t54 =>
        gdQ t54 true (fun k => k t6) fun t56 =>
        gdQ t54 true (fun k => k t52) fun t57 =>
        gdQ t54 true (fun k => binQ Tryd.prog w .sub 3 true t57 (.int .i64 1) k) fun t58 =>
        gdQ t54 true (fun k => iaS 3 t56 t58 k) fun t59 =>
        gdQ t54 true (fun k => fa1 t59 0 k) fun t60 =>
        gdQ t54 true (fun k => ld1 w t60 k) fun t61 =>
        gdQ t54 true (fun k => fa1 t8 0 k) fun t62 =>
        gdQ t54 true (fun k => ld1 w t62 k) fun t63 =>
        gdQ t54 true (fun k => binQ Tryd.prog w .eql 3 false t61 t63 k) fun t64 =>
        pickQ t54 t64 (.bool false) fun t65 =>
        gdQ t65 true (fun k => k t6) fun t67 =>
        gdQ t65 true (fun k => k t52) fun t68 =>
        gdQ t65 true (fun k => binQ Tryd.prog w .sub 3 true t68 (.int .i64 1) k) fun t69 =>
        gdQ t65 true (fun k => iaS 3 t67 t69 k) fun t70 =>
        gdQ t65 true (fun k => fa1 t70 2 k) fun t71 =>
        gdQ t65 true (fun k => ld1 w t71 k) fun t72 =>
        gdQ t65 true (fun k => fa1 t8 1 k) fun t73 =>
        gdQ t65 true (fun k => ld1 w t73 k) fun t74 =>
        gdQ t65 true (fun k => binQ Tryd.prog w .geq 3 false t72 t74 k) fun t75 =>
        pickQ t65 t75 (.bool false) fun t76 =>
        condW t76 (
          Drew w fun w =>
          binQ Tryd.prog w .sub 3 true t52 (.int .i64 1) fun t79 =>
          binQ Tryd.prog w .sub 3 true t52 (.int .i64 1) fun t82 =>
          iaS 3 t6 t82 fun t83 =>
          fa1 t83 2 fun t84 =>
          ld1 w t84 fun t85 =>
          fa1 t8 2 fun t86 =>
          ld1 w t86 fun t87 =>
          mnQ true [t85, t87] fun t88 =>
          iaS 3 t6 t79 fun t89 =>
          fa1 t89 2 fun t90 =>
          stW Tryd.prog 3 t90 t88 w fun w =>
          k_2 t6 w
        ) (
          ldN 3 w t8 fun t92 =>
          bsW Tryd.prog 68 1 [(0, t92)] w fun t93 w =>
          semW Tryd.prog (apS [68, 68] 68 [t6, t93]) w fun t94 w =>
          k_2 t94 w
        )
      ) fun t6_2 w =>
      binQ Tryd.prog w .add 3 true t47 (.int .i64 1) fun t95_2 =>
      next_2 t6_2 t95_2 w
    ) (
      R (.returned t6) w
    )

def S46L0 (t0 t11 : Value) (R : Ending → World → Prop) (w : World) : Prop :=
  Loop2 (.slice none 0 0) (.int .i64 0) w fun _ t3 t12 w next =>
    binQ Tryd.prog w .lss 3 false t12 t11 fun t13 =>
    condW t13 (
      iaS 3 t0 t12 fun t14 =>
      ldN 3 w t14 fun t15 =>
      boxW 44 (.agg #[(.int .i64 0), (.int .i64 0), (.int .i64 0)]) w fun t5 w =>
      stW Tryd.prog 44 t5 t15 w fun w =>
      fa1 t5 1 fun t17 =>
      ld1 w t17 fun t18 =>
      fa1 t5 0 fun t19 =>
      ld1 w t19 fun t20 =>
      fa1 t5 0 fun t21 =>
      ld1 w t21 fun t22 =>
      fa1 t5 2 fun t23 =>
      ld1 w t23 fun t24 =>
      binQ Tryd.prog w .add 3 false t22 t24 fun t25 =>
      bdQ Tryd.prog 71 [(0, t18), (1, t20), (2, t25)] fun t26 =>
      fa1 t5 1 fun t27 =>
      ld1 w t27 fun t28 =>
      fa1 t5 2 fun t29 =>
      ld1 w t29 fun t30 =>
      binQ Tryd.prog w .add 3 false t28 t30 fun t31 =>
      fa1 t5 0 fun t32 =>
      ld1 w t32 fun t33 =>
      fa1 t5 0 fun t34 =>
      ld1 w t34 fun t35 =>
      fa1 t5 2 fun t36 =>
      ld1 w t36 fun t37 =>
      binQ Tryd.prog w .add 3 false t35 t37 fun t38 =>
      bdQ Tryd.prog 71 [(0, t31), (1, t33), (2, t38)] fun t39 =>
      bsW Tryd.prog 68 2 [(0, t26), (1, t39)] w fun t40 w =>
      semW Tryd.prog (apS [68, 68] 68 [t3, t40]) w fun t41 w =>
      binQ Tryd.prog w .add 3 true t12 (.int .i64 1) fun t42 =>
      next t41 t42 w
    ) (
      callW Tryd.prog (.func (.func 65) #[] #[]) [t3, (.func (.func 66) #[] #[])] w fun t44 w =>
      ln1 t3 fun t46 =>
      S46L1 t3 t46 R w
    )



def S46 (t0 : Value) (w : World) (R : Ending → World → Prop) : Prop :=
  ln1 t0 fun t11 =>
  S46L0 t0 t11 R w

def A46 : Ann where
  live := fun
    | 0 => [3, 12]
    | 2 => [6, 47]
    | _ => []
  wr := fun
    | 0 => fun i => Nat.beq i 3 || Nat.beq i 5 || (Nat.ble 12 i && Nat.ble i 42)
    | 2 => fun i => Nat.beq i 6 || (Nat.ble 8 i && Nat.ble i 9) || (Nat.ble 47 i && Nat.ble i 95)
    | _ => fun _ => false
  sched := fun
    | 13 => (.take 0 (.take 1 (.take 2 (.take 3 (.take 4 (.take 5 (.take 6 (.take 7 (.take 8 (.take 9 (.take 10 (.take 11 (.take 12 (.take 13 (.take 14 (.take 15 (.take 16 (.take 17 (.take 18 (.take 19 (.take 20 (.take 21 (.take 22 (.take 23 .done))))))))))))))))))))))))
    | 14 => (.take 0 (.take 1 (.take 2 (.take 3 (.take 4 (.take 5 (.take 6 (.take 7 (.take 8 (.take 9 (.take 10 (.take 11 (.take 12 (.take 13 (.bar 14 .done)))))))))))))))
    | _ => .done

set_option maxRecDepth 100000 in
theorem ok46 : (codeOk Tryd.f46.ntmps A46 (Tryd.f46.body.getD .skip) 0 && Nat.ble 1 Tryd.f46.ntmps) = true := by kernel_rfl
set_option maxRecDepth 100000 in
theorem lift46 {t0 : Value} {w : World} {R : Ending → World → Prop} (h : S46 t0 w R) : Calls Tryd.prog 46 #[t0] w R :=
  calls_of_cw (fn := Tryd.f46) (c := Tryd.f46.body.getD .skip) A46 mixes Tryd.func46 (by kernel_rfl) ok46
    ((by kernel_rfl : (S46 t0 w R) = cw Tryd.prog A46 (Tryd.f46.body.getD .skip) 0 (bodyQ Tryd.prog Tryd.f46 R) (frOf #[t0]) w).mp h)

def S48L0 (t0 t1 t7 : Value) (R : Ending → World → Prop) (w : World) : Prop :=
  Loop1 (.int .i64 0) w fun _ t8 w next =>
    binQ Tryd.prog w .lss 3 false t8 t7 fun t9 =>
    condW t9 (
      iaS 3 t0 t8 fun t14 =>
      ldN 3 w t14 fun t15 =>
      callW Tryd.prog t1 [t15] w fun t16 w =>
      condW t16 (
        R (.returned t8) w
      ) (
        binQ Tryd.prog w .add 3 true t8 (.int .i64 1) fun t18 =>
        next t18 w
      )
    ) (
      R (.returned (.int .i64 (-1))) w
    )



def S48 (t0 t1 : Value) (w : World) (R : Ending → World → Prop) : Prop :=
  ln1 t0 fun t7 =>
  S48L0 t0 t1 t7 R w

def A48 : Ann where
  live := fun
    | 0 => [8]
    | _ => []
  wr := fun
    | 0 => fun i => (Nat.ble 4 i && Nat.ble i 5) || (Nat.ble 8 i && Nat.ble i 18)
    | _ => fun _ => false
  sched := fun _ => .done

set_option maxRecDepth 100000 in
theorem ok48 : (codeOk Tryd.f48.ntmps A48 (Tryd.f48.body.getD .skip) 0 && Nat.ble 2 Tryd.f48.ntmps) = true := by kernel_rfl
set_option maxRecDepth 100000 in
theorem lift48 {t0 t1 : Value} {w : World} {R : Ending → World → Prop} (h : S48 t0 t1 w R) : Calls Tryd.prog 48 #[t0, t1] w R :=
  calls_of_cw (fn := Tryd.f48) (c := Tryd.f48.body.getD .skip) A48 mixes Tryd.func48 (by kernel_rfl) ok48
    ((by kernel_rfl : (S48 t0 t1 w R) = cw Tryd.prog A48 (Tryd.f48.body.getD .skip) 0 (bodyQ Tryd.prog Tryd.f48 R) (frOf #[t0, t1]) w).mp h)

def S49 (t0 t1 t2 : Value) (w : World) (R : Ending → World → Prop) : Prop :=
  boxW 71 t0 w fun t3 w =>
  fa1 t3 0 fun t5 =>
  ld1 w t5 fun t6 =>
  ld1 w t1 fun t7 =>
  binQ Tryd.prog w .eql 3 false t6 t7 fun t8 =>
  gd t8 true (fun k => fa1 t3 1 fun v => k v w) w fun t10 w =>
  gd t8 true (fun k => ld1 w t10 fun v => k v w) w fun t11 w =>
  gd t8 true (fun k => ld1 w t2 fun v => k v w) w fun t12 w =>
  gd t8 true (fun k => binQ Tryd.prog w .leq 3 false t11 t12 fun v => k v w) w fun t13 w =>
  pickQ t8 t13 (.bool false) fun t14 =>
  gd t14 true (fun k => ld1 w t2 fun v => k v w) w fun t16 w =>
  gd t14 true (fun k => fa1 t3 2 fun v => k v w) w fun t17 w =>
  gd t14 true (fun k => ld1 w t17 fun v => k v w) w fun t18 w =>
  gd t14 true (fun k => binQ Tryd.prog w .leq 3 false t16 t18 fun v => k v w) w fun t19 w =>
  pickQ t14 t19 (.bool false) fun t20 =>
  R (.returned t20) w

def A49 : Ann where
  live := fun _ => []
  wr := fun _ _ => false
  sched := fun _ => .done

set_option maxRecDepth 100000 in
theorem ok49 : (codeOk Tryd.f49.ntmps A49 (Tryd.f49.body.getD .skip) 0 && Nat.ble 3 Tryd.f49.ntmps) = true := by kernel_rfl
set_option maxRecDepth 100000 in
theorem lift49 {t0 t1 t2 : Value} {w : World} {R : Ending → World → Prop} (h : S49 t0 t1 t2 w R) : Calls Tryd.prog 49 #[t0, t1, t2] w R :=
  calls_of_cw (fn := Tryd.f49) (c := Tryd.f49.body.getD .skip) A49 mixes Tryd.func49 (by kernel_rfl) ok49
    ((by kernel_rfl : (S49 t0 t1 t2 w R) = cw Tryd.prog A49 (Tryd.f49.body.getD .skip) 0 (bodyQ Tryd.prog Tryd.f49 R) (frOf #[t0, t1, t2]) w).mp h)

def S50 (t0 t1 : Value) (w : World) (R : Ending → World → Prop) : Prop :=
  boxW 71 t0 w fun t2 w =>
  ldN 3 w t2 fun t4 =>
  ldN 3 w t1 fun t5 =>
  binQ Tryd.prog w .eql 71 false t4 t5 fun t6 =>
  R (.returned t6) w

def A50 : Ann where
  live := fun _ => []
  wr := fun _ _ => false
  sched := fun _ => .done

set_option maxRecDepth 100000 in
theorem ok50 : (codeOk Tryd.f50.ntmps A50 (Tryd.f50.body.getD .skip) 0 && Nat.ble 2 Tryd.f50.ntmps) = true := by kernel_rfl
set_option maxRecDepth 100000 in
theorem lift50 {t0 t1 : Value} {w : World} {R : Ending → World → Prop} (h : S50 t0 t1 w R) : Calls Tryd.prog 50 #[t0, t1] w R :=
  calls_of_cw (fn := Tryd.f50) (c := Tryd.f50.body.getD .skip) A50 mixes Tryd.func50 (by kernel_rfl) ok50
    ((by kernel_rfl : (S50 t0 t1 w R) = cw Tryd.prog A50 (Tryd.f50.body.getD .skip) 0 (bodyQ Tryd.prog Tryd.f50 R) (frOf #[t0, t1]) w).mp h)

def S47 (t0 t1 t2 : Value) (w : World) (R : Ending → World → Prop) : Prop :=
  boxW 3 t0 w fun t3 w =>
  boxW 3 t1 w fun t4 w =>
  Drew w fun w =>
  Join (fun (k_2 : Value → World → Prop) =>
    ld1 w t2 fun t7 =>
    ld1 w t2 fun t8 =>
    And (
      callW Tryd.prog (.func (.func 48) #[] #[]) [t8, (.func (.func 49) #[] #[t3, t4])] w <| keepB w fun t10 w =>
      iaS 3 t7 t10 fun t11 =>
      ldN 3 w t11 fun t12 =>
      boxW 71 (.agg #[(.int .i64 0), (.int .i64 0), (.int .i64 0)]) w <| keepB w fun t6_2 w =>
      stW Tryd.prog 71 t6_2 t12 w fun w =>
      k_2 t6_2 w
    ) <|
    And (
      boxW 71 (.agg #[(.int .i64 0), (.int .i64 0), (.int .i64 0)]) w <| keepB w fun t6_3 w =>
      callW Tryd.prog (.func (.func 48) #[] #[]) [t8, (.func (.func 49) #[] #[t3, t4])] w <| keepB w fun t10_2 w =>
      iaS 3 t7 t10_2 fun t11_2 =>
      ldN 3 w t11_2 fun t12_2 =>
      stW Tryd.prog 71 t6_3 t12_2 w fun w =>
      k_2 t6_3 w
    ) <|
    True
  ) fun t6 w =>
  ld1 w t2 fun t13 =>
  callW Tryd.prog (.func (.func 48) #[] #[]) [t13, (.func (.func 50) #[] #[t6])] w fun t15 w =>
  R (.returned t15) w

def A47 : Ann where
  live := fun _ => []
  wr := fun _ _ => false
  sched := fun
    | 1 => (.take 0 (.take 1 (.take 2 (.alt 3 (.take 4 (.take 5 (.eff 6 (.bar 7 .done)))) (.alt 6 (.eff 3 (.take 4 (.take 5 (.bar 7 .done)))) .nomore)))))
    | _ => .done

set_option maxRecDepth 100000 in
theorem ok47 : (codeOk Tryd.f47.ntmps A47 (Tryd.f47.body.getD .skip) 0 && Nat.ble 3 Tryd.f47.ntmps) = true := by kernel_rfl
set_option maxRecDepth 100000 in
theorem lift47 {t0 t1 t2 : Value} {w : World} {R : Ending → World → Prop} (h : S47 t0 t1 t2 w R) : Calls Tryd.prog 47 #[t0, t1, t2] w R :=
  calls_of_cw (fn := Tryd.f47) (c := Tryd.f47.body.getD .skip) A47 mixes Tryd.func47 (by kernel_rfl) ok47
    ((by kernel_rfl : (S47 t0 t1 t2 w R) = cw Tryd.prog A47 (Tryd.f47.body.getD .skip) 0 (bodyQ Tryd.prog Tryd.f47 R) (frOf #[t0, t1, t2]) w).mp h)

def S17L0 (t2 t11 t37 : Value) (R : Ending → World → Prop) (w : World) : Prop :=
  Loop2 (.slice none 0 0) (.int .i64 0) w fun _ t13 t38 w next =>
    binQ Tryd.prog w .lss 3 false t38 t37 fun t39 =>
    condW t39 (
      iaS 3 t2 t38 fun t40 =>
      ldN 3 w t40 fun t41 =>
      boxW 44 (.agg #[(.int .i64 0), (.int .i64 0), (.int .i64 0)]) w fun t15 w =>
      stW Tryd.prog 44 t15 t41 w fun w =>
      Drew w fun w =>
      fa1 t15 1 fun t44 =>
      ld1 w t44 fun t45 =>
      fa1 t15 0 fun t46 =>
      ld1 w t46 fun t47 =>
      fa1 t15 1 fun t50 =>
      ld1 w t50 fun t51 =>
      fa1 t15 2 fun t52 =>
      ld1 w t52 fun t53 =>
      binQ Tryd.prog w .add 3 false t51 t53 fun t54 =>
      fa1 t15 0 fun t55 =>
      ld1 w t55 fun t56 =>
      callW Tryd.prog (.func (.func 47) #[] #[t11]) [t45, t47] w <| keepB w fun t48 w =>
      callW Tryd.prog (.func (.func 47) #[] #[t11]) [t54, t56] w <| keepB w fun t57 w =>
      bdQ Tryd.prog 40 [(0, t48), (1, t57)] fun t58 =>
      bsW Tryd.prog 27 1 [(0, t58)] w <| keepB w fun t59 w =>
      semW Tryd.prog (apS [27, 27] 27 [t13, t59]) w fun t60 w =>
      binQ Tryd.prog w .add 3 true t38 (.int .i64 1) fun t61 =>
      next t60 t61 w
    ) (
      ld1 w t11 fun t62 =>
      ln1 t62 fun t63 =>
      R (.returned (.tuple #[t63, t13, (.int .i64 0)])) w
    )

def S17 (t0 t1 t2 : Value) (w : World) (R : Ending → World → Prop) : Prop :=
  callW Tryd.prog (.func (.func 15) #[] #[]) [t0, t1, t2] w fun t20 w =>
  exQ t20 0 fun t21 =>
  exQ t20 1 fun t22 =>
  binQ Tryd.prog w .neq 24 true t22 (.int .i64 0) fun t25 =>
  condW t25 (
    R (.returned (.tuple #[(.int .i64 0), (.slice none 0 0), t22])) w
  ) (
    unQ .not t21 fun t29 =>
    condW t29 (
      R (.returned (.tuple #[(.int .i64 0), (.slice none 0 0), (.int .i64 10)])) w
    ) (
      callW Tryd.prog (.func (.func 46) #[] #[]) [t2] w fun t31 w =>
      boxW 68 (.slice none 0 0) w fun t11 w =>
      stW Tryd.prog 68 t11 t31 w fun w =>
      ld1 w t11 fun t32 =>
      ln1 t32 fun t33 =>
      binQ Tryd.prog w .gtr 3 true t33 (.int .i64 8) fun t34 =>
      condW t34 (
        R (.returned (.tuple #[(.int .i64 0), (.slice none 0 0), (.int .i64 8)])) w
      ) (
        ln1 t2 fun t37 =>
        S17L0 t2 t11 t37 R w
      )
    )
  )

def A17 : Ann where
  live := fun
    | 1 => [13, 38]
    | _ => []
  wr := fun
    | 1 => fun i => Nat.beq i 13 || Nat.beq i 15 || (Nat.ble 38 i && Nat.ble i 61)
    | _ => fun _ => false
  sched := fun
    | 14 => (.take 0 (.take 1 (.take 2 (.take 3 (.take 4 (.take 5 (.take 7 (.take 8 (.take 9 (.take 10 (.take 11 (.take 12 (.take 13 (.take 14 (.eff 6 (.eff 15 (.take 16 (.eff 17 (.bar 18 (.take 19 .done))))))))))))))))))))
    | _ => .done

set_option maxRecDepth 100000 in
theorem ok17 : (codeOk Tryd.f17.ntmps A17 (Tryd.f17.body.getD .skip) 0 && Nat.ble 3 Tryd.f17.ntmps) = true := by kernel_rfl
set_option maxRecDepth 100000 in
theorem lift17 {t0 t1 t2 : Value} {w : World} {R : Ending → World → Prop} (h : S17 t0 t1 t2 w R) : Calls Tryd.prog 17 #[t0, t1, t2] w R :=
  calls_of_cw (fn := Tryd.f17) (c := Tryd.f17.body.getD .skip) A17 mixes Tryd.func17 (by kernel_rfl) ok17
    ((by kernel_rfl : (S17 t0 t1 t2 w R) = cw Tryd.prog A17 (Tryd.f17.body.getD .skip) 0 (bodyQ Tryd.prog Tryd.f17 R) (frOf #[t0, t1, t2]) w).mp h)

def S34L0 (t0 t1 : Value) (R : Ending → World → Prop) (w : World) : Prop :=
  Loop3 (.slice none 0 0) (.int .i64 0) (.int .i64 0) w fun _ t6 t7 t8 w next =>
    binQ Tryd.prog w .lss 3 false t7 t0 fun t20 =>
    gd t20 true (fun k => k t8 w) w fun t22 w =>
    gd t20 true (fun k => k t1 w) w fun t23 w =>
    gd t20 true (fun k => binQ Tryd.prog w .lss 3 false t22 t23 fun v => k v w) w fun t24 w =>
    pickQ t20 t24 (.bool false) fun t25 =>
    condW t25 (
      ln1 t6 fun t27 =>
      binQ Tryd.prog w .eql 3 true t27 (.int .i64 16) fun t28 =>
      condW t28 (
        R (.returned (.tuple #[(.slice none 0 0), (.int .i64 8)])) w
      ) (
        binQ Tryd.prog w .sub 3 false t0 t7 fun t31 =>
        binQ Tryd.prog w .sub 3 false t1 t8 fun t34 =>
        mnQ false [t31, t34] fun t35 =>
        bdQ Tryd.prog 44 [(0, t7), (1, t8), (2, t35)] fun t40 =>
        bsW Tryd.prog 22 1 [(0, t40)] w fun t41 w =>
        semW Tryd.prog (apS [22, 22] 22 [t6, t41]) w fun t42 w =>
        binQ Tryd.prog w .sub 3 false t0 t7 fun t45 =>
        binQ Tryd.prog w .sub 3 false t1 t8 fun t48 =>
        binQ Tryd.prog w .gtr 3 false t45 t48 fun t49 =>
        condW t49 (
          binQ Tryd.prog w .add 3 false t7 t35 fun t52 =>
          next t42 t52 t8 w
        ) (
          binQ Tryd.prog w .add 3 false t8 t35 fun t55 =>
          next t42 t7 t55 w
        )
      )
    ) (
      R (.returned (.tuple #[t6, (.int .i64 0)])) w
    )

def S34 (t0 t1 : Value) (w : World) (R : Ending → World → Prop) : Prop :=
  callW Tryd.prog (.func (.func 42) #[] #[]) [t0] w fun t11 w =>
  unQ .not t11 fun t12 =>
  gd t12 false (fun k => k t1 w) w fun t14 w =>
  gd t12 false (fun k => callW Tryd.prog (.func (.func 42) #[] #[]) [t14] w k) w fun t15 w =>
  gd t12 false (fun k => unQ .not t15 fun v => k v w) w fun t16 w =>
  pickQ t12 (.bool true) t16 fun t17 =>
  condW t17 (
    R (.returned (.tuple #[(.slice none 0 0), (.int .i64 2)])) w
  ) (
    S34L0 t0 t1 R w
  )

def A34 : Ann where
  live := fun
    | 0 => [6, 7, 8]
    | _ => []
  wr := fun
    | 0 => fun i => (Nat.ble 4 i && Nat.ble i 9) || (Nat.ble 18 i && Nat.ble i 55)
    | _ => fun _ => false
  sched := fun _ => .done

set_option maxRecDepth 100000 in
theorem ok34 : (codeOk Tryd.f34.ntmps A34 (Tryd.f34.body.getD .skip) 0 && Nat.ble 2 Tryd.f34.ntmps) = true := by kernel_rfl
set_option maxRecDepth 100000 in
theorem lift34 {t0 t1 : Value} {w : World} {R : Ending → World → Prop} (h : S34 t0 t1 w R) : Calls Tryd.prog 34 #[t0, t1] w R :=
  calls_of_cw (fn := Tryd.f34) (c := Tryd.f34.body.getD .skip) A34 mixes Tryd.func34 (by kernel_rfl) ok34
    ((by kernel_rfl : (S34 t0 t1 w R) = cw Tryd.prog A34 (Tryd.f34.body.getD .skip) 0 (bodyQ Tryd.prog Tryd.f34 R) (frOf #[t0, t1]) w).mp h)

theorem fok42 : fnOk Tryd.prog 42 = true := by kernel_rfl
theorem fok64 : fnOk Tryd.prog 64 = true := by kernel_rfl
theorem fok43 : fnOk Tryd.prog 43 = true := by kernel_rfl
theorem fok15 : fnOk Tryd.prog 15 = true := by kernel_rfl
theorem fok68 : fnOk Tryd.prog 68 = true := by kernel_rfl
theorem fok82 : fnOk Tryd.prog 82 = true := by kernel_rfl
theorem fok67 : fnOk Tryd.prog 67 = true := by kernel_rfl
theorem fok66 : fnOk Tryd.prog 66 = true := by kernel_rfl
theorem fok46 : fnOk Tryd.prog 46 = true := by kernel_rfl
theorem fok48 : fnOk Tryd.prog 48 = true := by kernel_rfl
theorem fok49 : fnOk Tryd.prog 49 = true := by kernel_rfl
theorem fok50 : fnOk Tryd.prog 50 = true := by kernel_rfl
theorem fok47 : fnOk Tryd.prog 47 = true := by kernel_rfl
theorem fok17 : fnOk Tryd.prog 17 = true := by kernel_rfl
theorem fok34 : fnOk Tryd.prog 34 = true := by kernel_rfl
end Go.Proofs.YtkdcldbedbagjaaDoor
