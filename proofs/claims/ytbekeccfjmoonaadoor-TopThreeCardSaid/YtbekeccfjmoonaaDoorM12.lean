/- Texts of my own, merged by program: Sa Ta. -/
import Derived.Test.YtbekeccfjmoonaaDoorM07
import Derived.Test.YtbekeccfjmoonaaDoorM11
import Derived.Shelf.Strings.SlTrimAscii
set_option linter.all false
/- Lifted texts, printed by program (gen.py): what each function's code asks. The ties are by the kernel. -/
namespace Go.Proofs.YtbekeccfjmoonaaDoor
open Go.Lf Go.RowKit

def S5L0 (t0 : Value) (R : Ending → World → Prop) (w : World) : Prop :=
  Loop1 (.int .i64 0) w fun _ t3 w next =>
    ln1 t0 fun t6 =>
    binQ Tryd.prog w .lss 3 false t3 t6 fun t7 =>
    condW t7 (
      binQ Tryd.prog w .geq 3 true t3 (.int .i64 20) fun t11 =>
      gd t11 false (fun k => k t0 w) w fun t13 w =>
      gd t11 false (fun k => k t3 w) w fun t14 w =>
      gd t11 false (fun k => iaS 1 t13 t14 fun v => k v w) w fun t15 w =>
      gd t11 false (fun k => ld1 w t15 fun v => k v w) w fun t16 w =>
      gd t11 false (fun k => lnS t16 fun v => k v w) w fun t17 w =>
      gd t11 false (fun k => binQ Tryd.prog w .gtr 3 true t17 (.int .i64 20) fun v => k v w) w fun t18 w =>
      pickQ t11 (.bool true) t18 fun t19 =>
      condW t19 (
        R (.returned (.bool false)) w
      ) (
        binQ Tryd.prog w .add 3 true t3 (.int .i64 1) fun t9 =>
        next t9 w
      )
    ) (
      R (.returned (.bool true)) w
    )



def S5 (t0 : Value) (w : World) (R : Ending → World → Prop) : Prop :=
  S5L0 t0 R w

def A5 : Ann where
  live := fun
    | 0 => [3]
    | _ => []
  wr := fun
    | 0 => fun i => (Nat.ble 2 i && Nat.ble i 19)
    | _ => fun _ => false
  sched := fun _ => .done

set_option maxRecDepth 100000 in
theorem ok5 : (codeOk Tryd.f5.ntmps A5 (Tryd.f5.body.getD .skip) 0 && Nat.ble 1 Tryd.f5.ntmps) = true := by kernel_rfl
set_option maxRecDepth 100000 in
theorem lift5 {t0 : Value} {w : World} {R : Ending → World → Prop} (h : S5 t0 w R) : Calls Tryd.prog 5 #[t0] w R :=
  calls_of_cw (fn := Tryd.f5) (c := Tryd.f5.body.getD .skip) A5 mixes Tryd.func5 (by kernel_rfl) ok5
    ((by kernel_rfl : (S5 t0 w R) = cw Tryd.prog A5 (Tryd.f5.body.getD .skip) 0 (bodyQ Tryd.prog Tryd.f5 R) (frOf #[t0]) w).mp h)

def S6 (w : World) (R : Ending → World → Prop) : Prop :=
  bsW Tryd.prog 22 3 [(0, (.string ⟨#[35, 35, 35]⟩)), (1, (.string ⟨#[35, 35, 35]⟩)), (2, (.string ⟨#[35, 35, 46]⟩))] w fun t6 w =>
  callW Tryd.prog (.func (.func 9) #[] #[]) [t6] w fun t7 w =>
  exQ t7 0 fun t8 =>
  exQ t7 1 fun t9 =>
  bsW Tryd.prog 22 3 [(0, (.string ⟨#[35, 35, 35]⟩)), (1, (.string ⟨#[35, 35, 35]⟩)), (2, (.string ⟨#[35, 35, 46]⟩))] w fun t11 w =>
  callW Tryd.prog (.func (.func 8) #[] #[]) [] w fun t12 w =>
  callW Tryd.prog (.func (.func 7) #[] #[]) [t11, t12] w fun t13 w =>
  exQ t13 0 fun t14 =>
  exQ t13 1 fun t15 =>
  binQ Tryd.prog w .eql 25 true t9 (.int .i64 0) fun t17 =>
  gd t17 true (fun k => k t8 w) w fun t19 w =>
  gd t17 true (fun k => binQ Tryd.prog w .eql 3 true t19 (.int .i64 4) fun v => k v w) w fun t20 w =>
  pickQ t17 t20 (.bool false) fun t21 =>
  gd t21 true (fun k => k t15 w) w fun t23 w =>
  gd t21 true (fun k => binQ Tryd.prog w .eql 25 true t23 (.int .i64 0) fun v => k v w) w fun t24 w =>
  pickQ t21 t24 (.bool false) fun t25 =>
  gd t25 true (fun k => k t14 w) w fun t27 w =>
  gd t25 true (fun k => binQ Tryd.prog w .eql 3 true t27 (.int .i64 4) fun v => k v w) w fun t28 w =>
  pickQ t25 t28 (.bool false) fun t29 =>
  R (.returned t29) w

def A6 : Ann where
  live := fun _ => []
  wr := fun _ _ => false
  sched := fun _ => .done

set_option maxRecDepth 100000 in
theorem ok6 : (codeOk Tryd.f6.ntmps A6 (Tryd.f6.body.getD .skip) 0 && Nat.ble 0 Tryd.f6.ntmps) = true := by kernel_rfl
set_option maxRecDepth 100000 in
theorem lift6 {w : World} {R : Ending → World → Prop} (h : S6 w R) : Calls Tryd.prog 6 #[] w R :=
  calls_of_cw (fn := Tryd.f6) (c := Tryd.f6.body.getD .skip) A6 mixes Tryd.func6 (by kernel_rfl) ok6
    ((by kernel_rfl : (S6 w R) = cw Tryd.prog A6 (Tryd.f6.body.getD .skip) 0 (bodyQ Tryd.prog Tryd.f6 R) (frOf #[]) w).mp h)

def S8 (w : World) (R : Ending → World → Prop) : Prop :=
  bdQ Tryd.prog 43 [(0, (.int .i64 0)), (1, (.int .i64 0))] fun t1 =>
  bdQ Tryd.prog 43 [(0, (.int .i64 1)), (1, (.int .i64 0))] fun t2 =>
  bsW Tryd.prog 61 2 [(0, t1), (1, t2)] w fun t3 w =>
  bdQ Tryd.prog 43 [(0, (.int .i64 0)), (1, (.int .i64 0))] fun t4 =>
  bdQ Tryd.prog 43 [(0, (.int .i64 0)), (1, (.int .i64 1))] fun t5 =>
  bsW Tryd.prog 61 2 [(0, t4), (1, t5)] w fun t6 w =>
  bsW Tryd.prog 28 2 [(0, t3), (1, t6)] w fun t7 w =>
  R (.returned t7) w

def A8 : Ann where
  live := fun _ => []
  wr := fun _ _ => false
  sched := fun _ => .done

set_option maxRecDepth 100000 in
theorem ok8 : (codeOk Tryd.f8.ntmps A8 (Tryd.f8.body.getD .skip) 0 && Nat.ble 0 Tryd.f8.ntmps) = true := by kernel_rfl
set_option maxRecDepth 100000 in
theorem lift8 {w : World} {R : Ending → World → Prop} (h : S8 w R) : Calls Tryd.prog 8 #[] w R :=
  calls_of_cw (fn := Tryd.f8) (c := Tryd.f8.body.getD .skip) A8 mixes Tryd.func8 (by kernel_rfl) ok8
    ((by kernel_rfl : (S8 w R) = cw Tryd.prog A8 (Tryd.f8.body.getD .skip) 0 (bodyQ Tryd.prog Tryd.f8 R) (frOf #[]) w).mp h)

def S9 (t0 : Value) (w : World) (R : Ending → World → Prop) : Prop :=
  callW Tryd.prog (.func (.func 21) #[] #[]) [t0] w fun t8 w =>
  exQ t8 0 fun t9 =>
  exQ t8 1 fun t10 =>
  boxW 63 (.agg #[(.int .i64 0), (.int .i64 0), (.slice none 0 0)]) w fun t4 w =>
  stW Tryd.prog 63 t4 t9 w fun w =>
  unQ .not t10 fun t12 =>
  condW t12 (
    R (.returned (.tuple #[(.int .i64 0), (.int .i64 2)])) w
  ) (
    ldN 3 w t4 fun t13 =>
    callW Tryd.prog (.func (.func 22) #[] #[]) [t13] w fun t14 w =>
    bdQ Tryd.prog 72 [] fun t15 =>
    callW Tryd.prog (.func (.func 23) #[] #[]) [t14, t15] w fun t16 w =>
    R (.returned (.tuple #[t16, (.int .i64 0)])) w
  )

def A9 : Ann where
  live := fun _ => []
  wr := fun _ _ => false
  sched := fun _ => .done

set_option maxRecDepth 100000 in
theorem ok9 : (codeOk Tryd.f9.ntmps A9 (Tryd.f9.body.getD .skip) 0 && Nat.ble 1 Tryd.f9.ntmps) = true := by kernel_rfl
set_option maxRecDepth 100000 in
theorem lift9 {t0 : Value} {w : World} {R : Ending → World → Prop} (h : S9 t0 w R) : Calls Tryd.prog 9 #[t0] w R :=
  calls_of_cw (fn := Tryd.f9) (c := Tryd.f9.body.getD .skip) A9 mixes Tryd.func9 (by kernel_rfl) ok9
    ((by kernel_rfl : (S9 t0 w R) = cw Tryd.prog A9 (Tryd.f9.body.getD .skip) 0 (bodyQ Tryd.prog Tryd.f9 R) (frOf #[t0]) w).mp h)

def S14L1 (t6 t9 t10 t46 t47 : Value) (next : Value → Value → World → Prop) (w : World) : Prop :=
  Loop2 t9 (.int .i64 0) w fun _ t9_2 t48 w next_2 =>
    binQ Tryd.prog w .lss 3 false t48 t47 fun t49 =>
    condW t49 (
      iaS 2 t46 t48 fun t50 =>
      ldN 2 w t50 fun t51 =>
      boxW 43 (.agg #[(.int .i64 0), (.int .i64 0)]) w fun t12 w =>
      stW Tryd.prog 43 t12 t51 w fun w =>
      ld1 w t6 fun t52 =>
      ldN 2 w t12 fun t53 =>
      semW Tryd.prog (lkS 87 t52 t53 false) w fun t54 w =>
      boxW 43 (.agg #[(.int .i64 0), (.int .i64 0)]) w fun t13 w =>
      stW Tryd.prog 43 t13 t54 w fun w =>
      ldN 2 w t13 fun t56 =>
      callW Tryd.prog (.func (.func 38) #[] #[]) [t9_2, t56] w fun t57 w =>
      unQ .not t57 fun t58 =>
      Join (fun (k_2 : Value → World → Prop) =>
        condW t58 (
          ldN 2 w t13 fun t60 =>
          bsW Tryd.prog 39 1 [(0, t60)] w fun t61 w =>
          semW Tryd.prog (apS [39, 39] 39 [t9_2, t61]) w fun t62 w =>
          k_2 t62 w
        ) (
          k_2 t9_2 w
        )
      ) fun t9_3 w =>
      binQ Tryd.prog w .add 3 true t48 (.int .i64 1) fun t63_2 =>
      next_2 t9_3 t63_2 w
    ) (
      binQ Tryd.prog w .add 3 true t10 (.int .i64 1) fun t40 =>
      next t9_2 t40 w
    )

def S14L0 (t4 t6 t34 : Value) (R : Ending → World → Prop) (w : World) : Prop :=
  Loop2 t34 (.int .i64 0) w fun _ t9 t10 w next =>
    ln1 t9 fun t37 =>
    binQ Tryd.prog w .lss 3 false t10 t37 fun t38 =>
    condW t38 (
      Drew w fun w =>
      ldN 3 w t4 fun t41 =>
      iaS 2 t9 t10 fun t44 =>
      ldN 2 w t44 fun t45 =>
      callW Tryd.prog (.func (.func 26) #[] #[]) [t41, t45] w <| keepB w fun t46 w =>
      ln1 t46 fun t47 =>
      S14L1 t6 t9 t10 t46 t47 next w
    ) (
      callW Tryd.prog (.func (.func 39) #[] #[]) [t9, (.func (.func 40) #[] #[])] w fun t65 w =>
      R (.returned (.tuple #[t9, (.int .i64 0)])) w
    )

def S14 (t0 : Value) (w : World) (R : Ending → World → Prop) : Prop :=
  callW Tryd.prog (.func (.func 21) #[] #[]) [t0] w fun t16 w =>
  exQ t16 0 fun t17 =>
  exQ t16 1 fun t18 =>
  boxW 63 (.agg #[(.int .i64 0), (.int .i64 0), (.slice none 0 0)]) w fun t4 w =>
  stW Tryd.prog 63 t4 t17 w fun w =>
  unQ .not t18 fun t20 =>
  condW t20 (
    R (.returned (.tuple #[(.slice none 0 0), (.int .i64 2)])) w
  ) (
    ldN 3 w t4 fun t21 =>
    callW Tryd.prog (.func (.func 35) #[] #[]) [t21] w fun t22 w =>
    boxW 87 (.map none) w fun t6 w =>
    stW Tryd.prog 87 t6 t22 w fun w =>
    ldN 3 w t4 fun t23 =>
    callW Tryd.prog (.func (.func 24) #[] #[]) [t23] w fun t24 w =>
    callW Tryd.prog (.func (.func 36) #[] #[]) [t24, (.func (.func 37) #[] #[t6])] w fun t27 w =>
    binQ Tryd.prog w .lss 3 true t27 (.int .i64 0) fun t29 =>
    condW t29 (
      R (.returned (.tuple #[(.slice none 0 0), (.int .i64 10)])) w
    ) (
      iaS 2 t24 t27 fun t32 =>
      ldN 2 w t32 fun t33 =>
      bsW Tryd.prog 39 1 [(0, t33)] w fun t34 w =>
      S14L0 t4 t6 t34 R w
    )
  )

def A14 : Ann where
  live := fun
    | 0 => [9, 10]
    | 2 => [9, 48]
    | _ => []
  wr := fun
    | 0 => fun i => (Nat.ble 9 i && Nat.ble i 10) || (Nat.ble 12 i && Nat.ble i 13) || (Nat.ble 35 i && Nat.ble i 63)
    | 2 => fun i => Nat.beq i 9 || (Nat.ble 12 i && Nat.ble i 13) || (Nat.ble 48 i && Nat.ble i 63)
    | _ => fun _ => false
  sched := fun
    | 13 => (.take 0 (.take 1 (.take 2 (.take 3 (.take 4 (.take 7 (.eff 5 (.take 6 .done))))))))
    | _ => .done

set_option maxRecDepth 100000 in
theorem ok14 : (codeOk Tryd.f14.ntmps A14 (Tryd.f14.body.getD .skip) 0 && Nat.ble 1 Tryd.f14.ntmps) = true := by kernel_rfl
set_option maxRecDepth 100000 in
theorem lift14 {t0 : Value} {w : World} {R : Ending → World → Prop} (h : S14 t0 w R) : Calls Tryd.prog 14 #[t0] w R :=
  calls_of_cw (fn := Tryd.f14) (c := Tryd.f14.body.getD .skip) A14 mixes Tryd.func14 (by kernel_rfl) ok14
    ((by kernel_rfl : (S14 t0 w R) = cw Tryd.prog A14 (Tryd.f14.body.getD .skip) 0 (bodyQ Tryd.prog Tryd.f14 R) (frOf #[t0]) w).mp h)

def S21 (t0 : Value) (w : World) (R : Ending → World → Prop) : Prop :=
  boxW 22 t0 w fun t1 w =>
  boxW 63 (.agg #[(.int .i64 0), (.int .i64 0), (.slice none 0 0)]) w fun t2 w =>
  ld1 w t1 fun t5 =>
  ln1 t5 fun t6 =>
  binQ Tryd.prog w .lss 3 true t6 (.int .i64 1) fun t7 =>
  gd t7 false (fun k => ld1 w t1 fun v => k v w) w fun t9 w =>
  gd t7 false (fun k => ln1 t9 fun v => k v w) w fun t10 w =>
  gd t7 false (fun k => binQ Tryd.prog w .gtr 3 true t10 (.int .i64 8) fun v => k v w) w fun t11 w =>
  pickQ t7 (.bool true) t11 fun t12 =>
  gd t12 false (fun k => ld1 w t1 fun v => k v w) w fun t14 w =>
  gd t12 false (fun k => iaS 1 t14 (.int .i64 0) fun v => k v w) w fun t15 w =>
  gd t12 false (fun k => ld1 w t15 fun v => k v w) w fun t16 w =>
  gd t12 false (fun k => lnS t16 fun v => k v w) w fun t17 w =>
  gd t12 false (fun k => binQ Tryd.prog w .lss 3 true t17 (.int .i64 1) fun v => k v w) w fun t18 w =>
  pickQ t12 (.bool true) t18 fun t19 =>
  gd t19 false (fun k => ld1 w t1 fun v => k v w) w fun t21 w =>
  gd t19 false (fun k => iaS 1 t21 (.int .i64 0) fun v => k v w) w fun t22 w =>
  gd t19 false (fun k => ld1 w t22 fun v => k v w) w fun t23 w =>
  gd t19 false (fun k => lnS t23 fun v => k v w) w fun t24 w =>
  gd t19 false (fun k => binQ Tryd.prog w .gtr 3 true t24 (.int .i64 8) fun v => k v w) w fun t25 w =>
  pickQ t19 (.bool true) t25 fun t26 =>
  condW t26 (
    bdQ Tryd.prog 63 [] fun t27 =>
    stW Tryd.prog 63 t2 t27 w fun w =>
    ldN 3 w t2 fun r =>
    R (.returned (.tuple #[r, (.bool false)])) w
  ) (
    ld1 w t1 fun t29 =>
    callW Tryd.prog (.func (.func 54) #[] #[]) [t29, (.func (.func 52) #[] #[t1])] w fun t31 w =>
    condW t31 (
      bdQ Tryd.prog 63 [] fun t32 =>
      stW Tryd.prog 63 t2 t32 w fun w =>
      ldN 3 w t2 fun r_2 =>
      R (.returned (.tuple #[r_2, (.bool false)])) w
    ) (
      Drew w fun w =>
      ld1 w t1 fun t33 =>
      iaS 1 t33 (.int .i64 0) fun t34 =>
      ld1 w t34 fun t35 =>
      lnS t35 fun t36 =>
      ld1 w t1 fun t37 =>
      ln1 t37 fun t38 =>
      ld1 w t1 fun t39 =>
      bdQ Tryd.prog 63 [(0, t36), (1, t38), (2, t39)] fun t40 =>
      stW Tryd.prog 63 t2 t40 w fun w =>
      ldN 3 w t2 fun r_3 =>
      R (.returned (.tuple #[r_3, (.bool true)])) w
    )
  )

def A21 : Ann where
  live := fun _ => []
  wr := fun _ _ => false
  sched := fun
    | 6 => (.take 0 (.take 1 (.take 2 (.take 3 (.take 4 (.take 5 (.take 6 (.take 7 (.bar 8 (.take 9 .done))))))))))
    | _ => .done

set_option maxRecDepth 100000 in
theorem ok21 : (codeOk Tryd.f21.ntmps A21 (Tryd.f21.body.getD .skip) 0 && Nat.ble 1 Tryd.f21.ntmps) = true := by kernel_rfl
set_option maxRecDepth 100000 in
theorem lift21 {t0 : Value} {w : World} {R : Ending → World → Prop} (h : S21 t0 w R) : Calls Tryd.prog 21 #[t0] w R :=
  calls_of_cw (fn := Tryd.f21) (c := Tryd.f21.body.getD .skip) A21 mixes Tryd.func21 (by kernel_rfl) ok21
    ((by kernel_rfl : (S21 t0 w R) = cw Tryd.prog A21 (Tryd.f21.body.getD .skip) 0 (bodyQ Tryd.prog Tryd.f21 R) (frOf #[t0]) w).mp h)

def S22 (t0 : Value) (w : World) (R : Ending → World → Prop) : Prop :=
  boxW 63 t0 w fun t1 w =>
  boxW 68 (.agg #[(.int .i64 0), (.int .i64 0), (.slice none 0 0), (.map none)]) w fun t2 w =>
  ldN 3 w t1 fun t3 =>
  mmW w fun t4 w =>
  bdQ Tryd.prog 68 [(0, t3), (1, t4)] fun t5 =>
  stW Tryd.prog 68 t2 t5 w fun w =>
  ldN 4 w t2 fun r =>
  R (.returned r) w

def A22 : Ann where
  live := fun _ => []
  wr := fun _ _ => false
  sched := fun _ => .done

set_option maxRecDepth 100000 in
theorem ok22 : (codeOk Tryd.f22.ntmps A22 (Tryd.f22.body.getD .skip) 0 && Nat.ble 1 Tryd.f22.ntmps) = true := by kernel_rfl
set_option maxRecDepth 100000 in
theorem lift22 {t0 : Value} {w : World} {R : Ending → World → Prop} (h : S22 t0 w R) : Calls Tryd.prog 22 #[t0] w R :=
  calls_of_cw (fn := Tryd.f22) (c := Tryd.f22.body.getD .skip) A22 mixes Tryd.func22 (by kernel_rfl) ok22
    ((by kernel_rfl : (S22 t0 w R) = cw Tryd.prog A22 (Tryd.f22.body.getD .skip) 0 (bodyQ Tryd.prog Tryd.f22 R) (frOf #[t0]) w).mp h)

def S23L0 (t2 t3 t38 t39 : Value) (R : Ending → World → Prop) (w : World) : Prop :=
  Loop2 (.int .i64 0) (.int .i64 0) w fun _ t7 t40 w next =>
    binQ Tryd.prog w .lss 3 false t40 t39 fun t41 =>
    condW t41 (
      iaS 2 t38 t40 fun t42 =>
      ldN 2 w t42 fun t43 =>
      boxW 72 (.agg #[(.int .i64 0), (.int .i64 0)]) w fun t9 w =>
      stW Tryd.prog 72 t9 t43 w fun w =>
      fa1 t9 0 fun t44 =>
      ld1 w t44 fun t45 =>
      binQ Tryd.prog w .gtr 3 true t45 (.int .i64 0) fun t46 =>
      Join (fun (k_2 : Value → World → Prop) =>
        condW t46 (
          ldN 4 w t2 fun t48 =>
          ldN 2 w t9 fun t49 =>
          callW Tryd.prog (.func (.func 23) #[] #[]) [t48, t49] w fun t50 w =>
          binQ Tryd.prog w .add 3 false t7 t50 fun t51 =>
          k_2 t51 w
        ) (
          k_2 t7 w
        )
      ) fun t7_2 w =>
      binQ Tryd.prog w .add 3 true t40 (.int .i64 1) fun t52_2 =>
      next t7_2 t52_2 w
    ) (
      fa1 t2 3 fun t53 =>
      ld1 w t53 fun t54 =>
      ldN 2 w t3 fun t55 =>
      semW Tryd.prog (muS 66 t54 t55 t7) w fun _ w =>
      R (.returned t7) w
    )

def S23 (t0 t1 : Value) (w : World) (R : Ending → World → Prop) : Prop :=
  boxW 68 t0 w fun t2 w =>
  boxW 72 t1 w fun t3 w =>
  fa1 t3 0 fun t10 =>
  ld1 w t10 fun t11 =>
  fa1 t2 0 fun t12 =>
  fa1 t12 0 fun t13 =>
  ld1 w t13 fun t14 =>
  fa1 t2 0 fun t15 =>
  fa1 t15 1 fun t16 =>
  ld1 w t16 fun t17 =>
  binQ Tryd.prog w .mul 3 false t14 t17 fun t18 =>
  binQ Tryd.prog w .eql 3 false t11 t18 fun t19 =>
  condW t19 (
    R (.returned (.int .i64 1)) w
  ) (
    fa1 t2 3 fun t21 =>
    ld1 w t21 fun t22 =>
    ldN 2 w t3 fun t23 =>
    semW Tryd.prog (lkS 66 t22 t23 true) w fun t24 w =>
    exQ t24 0 fun t25 =>
    exQ t24 1 fun t26 =>
    condW t26 (
      R (.returned t25) w
    ) (
      Drew w fun w =>
      ldN 4 w t2 fun t29 =>
      ldN 2 w t3 fun t30 =>
      ldN 4 w t2 fun t32 =>
      ldN 2 w t3 fun t33 =>
      ldN 4 w t2 fun t35 =>
      ldN 2 w t3 fun t36 =>
      callW Tryd.prog (.func (.func 55) #[] #[]) [t29, t30] w <| keepB w fun t31 w =>
      callW Tryd.prog (.func (.func 56) #[] #[]) [t32, t33] w <| keepB w fun t34 w =>
      callW Tryd.prog (.func (.func 57) #[] #[]) [t35, t36] w <| keepB w fun t37 w =>
      bsW Tryd.prog 112 3 [(0, t31), (1, t34), (2, t37)] w <| keepB w fun t38 w =>
      ln1 t38 fun t39 =>
      S23L0 t2 t3 t38 t39 R w
    )
  )

def A23 : Ann where
  live := fun
    | 0 => [7, 40]
    | _ => []
  wr := fun
    | 0 => fun i => Nat.beq i 7 || Nat.beq i 9 || (Nat.ble 40 i && Nat.ble i 52)
    | _ => fun _ => false
  sched := fun
    | 7 => (.take 0 (.take 1 (.take 3 (.take 4 (.take 6 (.take 7 (.take 11 (.eff 2 (.eff 5 (.eff 8 (.eff 9 (.take 10 .done))))))))))))
    | _ => .done

set_option maxRecDepth 100000 in
theorem ok23 : (codeOk Tryd.f23.ntmps A23 (Tryd.f23.body.getD .skip) 0 && Nat.ble 2 Tryd.f23.ntmps) = true := by kernel_rfl
set_option maxRecDepth 100000 in
theorem lift23 {t0 t1 : Value} {w : World} {R : Ending → World → Prop} (h : S23 t0 t1 w R) : Calls Tryd.prog 23 #[t0, t1] w R :=
  calls_of_cw (fn := Tryd.f23) (c := Tryd.f23.body.getD .skip) A23 mixes Tryd.func23 (by kernel_rfl) ok23
    ((by kernel_rfl : (S23 t0 t1 w R) = cw Tryd.prog A23 (Tryd.f23.body.getD .skip) 0 (bodyQ Tryd.prog Tryd.f23 R) (frOf #[t0, t1]) w).mp h)

def S24L1 (t1 t3 t8 t12 : Value) (next : Value → Value → World → Prop) (w : World) : Prop :=
  Loop2 t3 (.int .i64 0) w fun _ t3_2 t13 w next_2 =>
    binQ Tryd.prog w .lss 3 false t13 t12 fun t14 =>
    condW t14 (
      ldN 3 w t1 fun t16 =>
      callW Tryd.prog (.func (.func 30) #[] #[]) [t16, t13, t8] w fun t19 w =>
      Join (fun (k_2 : Value → World → Prop) =>
        condW t19 (
          bdQ Tryd.prog 43 [(0, t13), (1, t8)] fun t23 =>
          bsW Tryd.prog 39 1 [(0, t23)] w fun t24 w =>
          semW Tryd.prog (apS [39, 39] 39 [t3_2, t24]) w fun t25 w =>
          k_2 t25 w
        ) (
          k_2 t3_2 w
        )
      ) fun t3_3 w =>
      binQ Tryd.prog w .add 3 true t13 (.int .i64 1) fun t26_2 =>
      next_2 t3_3 t26_2 w
    ) (
      binQ Tryd.prog w .add 3 true t8 (.int .i64 1) fun t27 =>
      next t3_2 t27 w
    )

def S24L0 (t1 t7 : Value) (R : Ending → World → Prop) (w : World) : Prop :=
  Loop2 (.slice none 0 0) (.int .i64 0) w fun _ t3 t8 w next =>
    binQ Tryd.prog w .lss 3 false t8 t7 fun t9 =>
    condW t9 (
      fa1 t1 0 fun t11 =>
      ld1 w t11 fun t12 =>
      S24L1 t1 t3 t8 t12 next w
    ) (
      R (.returned t3) w
    )



def S24 (t0 : Value) (w : World) (R : Ending → World → Prop) : Prop :=
  boxW 63 t0 w fun t1 w =>
  fa1 t1 1 fun t6 =>
  ld1 w t6 fun t7 =>
  S24L0 t1 t7 R w

def A24 : Ann where
  live := fun
    | 0 => [3, 8]
    | 2 => [3, 13]
    | _ => []
  wr := fun
    | 0 => fun i => (Nat.ble 3 i && Nat.ble i 5) || (Nat.ble 8 i && Nat.ble i 27)
    | 2 => fun i => Nat.beq i 3 || Nat.beq i 5 || (Nat.ble 13 i && Nat.ble i 26)
    | _ => fun _ => false
  sched := fun _ => .done

set_option maxRecDepth 100000 in
theorem ok24 : (codeOk Tryd.f24.ntmps A24 (Tryd.f24.body.getD .skip) 0 && Nat.ble 1 Tryd.f24.ntmps) = true := by kernel_rfl
set_option maxRecDepth 100000 in
theorem lift24 {t0 : Value} {w : World} {R : Ending → World → Prop} (h : S24 t0 w R) : Calls Tryd.prog 24 #[t0] w R :=
  calls_of_cw (fn := Tryd.f24) (c := Tryd.f24.body.getD .skip) A24 mixes Tryd.func24 (by kernel_rfl) ok24
    ((by kernel_rfl : (S24 t0 w R) = cw Tryd.prog A24 (Tryd.f24.body.getD .skip) 0 (bodyQ Tryd.prog Tryd.f24 R) (frOf #[t0]) w).mp h)

def S25 (t0 : Value) (w : World) (R : Ending → World → Prop) : Prop :=
  boxW 43 t0 w fun t1 w =>
  fa1 t1 0 fun t3 =>
  ld1 w t3 fun t4 =>
  fa1 t1 1 fun t5 =>
  ld1 w t5 fun t6 =>
  binQ Tryd.prog w .add 3 false t4 t6 fun t7 =>
  binQ Tryd.prog w .rem 3 true t7 (.int .i64 2) fun t8 =>
  binQ Tryd.prog w .eql 3 true t8 (.int .i64 0) fun t9 =>
  R (.returned t9) w

def A25 : Ann where
  live := fun _ => []
  wr := fun _ _ => false
  sched := fun _ => .done

set_option maxRecDepth 100000 in
theorem ok25 : (codeOk Tryd.f25.ntmps A25 (Tryd.f25.body.getD .skip) 0 && Nat.ble 1 Tryd.f25.ntmps) = true := by kernel_rfl
set_option maxRecDepth 100000 in
theorem lift25 {t0 : Value} {w : World} {R : Ending → World → Prop} (h : S25 t0 w R) : Calls Tryd.prog 25 #[t0] w R :=
  calls_of_cw (fn := Tryd.f25) (c := Tryd.f25.body.getD .skip) A25 mixes Tryd.func25 (by kernel_rfl) ok25
    ((by kernel_rfl : (S25 t0 w R) = cw Tryd.prog A25 (Tryd.f25.body.getD .skip) 0 (bodyQ Tryd.prog Tryd.f25 R) (frOf #[t0]) w).mp h)

def S26L0 (t2 t3 t8 : Value) (R : Ending → World → Prop) (w : World) : Prop :=
  Loop2 (.slice none 0 0) (.int .i64 0) w fun _ t5 t9 w next =>
    binQ Tryd.prog w .lss 3 true t9 (.int .i64 4) fun t10 =>
    condW t10 (
      semW Tryd.prog (ixS 113 t8 t9) w fun t11 w =>
      boxW 43 (.agg #[(.int .i64 0), (.int .i64 0)]) w fun t7 w =>
      stW Tryd.prog 43 t7 t11 w fun w =>
      ldN 3 w t2 fun t12 =>
      fa1 t3 0 fun t13 =>
      ld1 w t13 fun t14 =>
      fa1 t7 0 fun t15 =>
      ld1 w t15 fun t16 =>
      binQ Tryd.prog w .add 3 false t14 t16 fun t17 =>
      fa1 t3 1 fun t18 =>
      ld1 w t18 fun t19 =>
      fa1 t7 1 fun t20 =>
      ld1 w t20 fun t21 =>
      binQ Tryd.prog w .add 3 false t19 t21 fun t22 =>
      callW Tryd.prog (.func (.func 30) #[] #[]) [t12, t17, t22] w fun t23 w =>
      Join (fun (k_2 : Value → World → Prop) =>
        condW t23 (
          fa1 t3 0 fun t25 =>
          ld1 w t25 fun t26 =>
          fa1 t7 0 fun t27 =>
          ld1 w t27 fun t28 =>
          binQ Tryd.prog w .add 3 false t26 t28 fun t29 =>
          fa1 t3 1 fun t30 =>
          ld1 w t30 fun t31 =>
          fa1 t7 1 fun t32 =>
          ld1 w t32 fun t33 =>
          binQ Tryd.prog w .add 3 false t31 t33 fun t34 =>
          bdQ Tryd.prog 43 [(0, t29), (1, t34)] fun t35 =>
          bsW Tryd.prog 39 1 [(0, t35)] w fun t36 w =>
          semW Tryd.prog (apS [39, 39] 39 [t5, t36]) w fun t37 w =>
          k_2 t37 w
        ) (
          k_2 t5 w
        )
      ) fun t5_2 w =>
      binQ Tryd.prog w .add 3 true t9 (.int .i64 1) fun t38_2 =>
      next t5_2 t38_2 w
    ) (
      R (.returned t5) w
    )



def S26 (t0 t1 : Value) (w : World) (R : Ending → World → Prop) : Prop :=
  boxW 63 t0 w fun t2 w =>
  boxW 43 t1 w fun t3 w =>
  ldN 8 w (.pointer (some ⟨0, 0, none⟩)) fun t8 =>
  S26L0 t2 t3 t8 R w

def A26 : Ann where
  live := fun
    | 0 => [5, 9]
    | _ => []
  wr := fun
    | 0 => fun i => Nat.beq i 5 || Nat.beq i 7 || (Nat.ble 9 i && Nat.ble i 38)
    | _ => fun _ => false
  sched := fun _ => .done

set_option maxRecDepth 100000 in
theorem ok26 : (codeOk Tryd.f26.ntmps A26 (Tryd.f26.body.getD .skip) 0 && Nat.ble 2 Tryd.f26.ntmps) = true := by kernel_rfl
set_option maxRecDepth 100000 in
theorem lift26 {t0 t1 : Value} {w : World} {R : Ending → World → Prop} (h : S26 t0 t1 w R) : Calls Tryd.prog 26 #[t0, t1] w R :=
  calls_of_cw (fn := Tryd.f26) (c := Tryd.f26.body.getD .skip) A26 mixes Tryd.func26 (by kernel_rfl) ok26
    ((by kernel_rfl : (S26 t0 t1 w R) = cw Tryd.prog A26 (Tryd.f26.body.getD .skip) 0 (bodyQ Tryd.prog Tryd.f26 R) (frOf #[t0, t1]) w).mp h)

def S27L0 (t0 t3 t7 : Value) (R : Ending → World → Prop) (w : World) : Prop :=
  Loop1 (.int .i64 0) w fun _ t8 w next =>
    binQ Tryd.prog w .lss 3 false t8 t7 fun t9 =>
    condW t9 (
      Drew w fun w =>
      ldN 2 w t3 fun t11 =>
      iaS 2 t0 t8 fun t14 =>
      ldN 2 w t14 fun t15 =>
      binQ Tryd.prog w .eql 43 false t11 t15 fun t16 =>
      condW t16 (
        R (.returned t8) w
      ) (
        binQ Tryd.prog w .add 3 true t8 (.int .i64 1) fun t18 =>
        next t18 w
      )
    ) (
      R (.returned (.int .i64 (-1))) w
    )



def S27 (t0 t1 : Value) (w : World) (R : Ending → World → Prop) : Prop :=
  boxW 43 t1 w fun t3 w =>
  ln1 t0 fun t7 =>
  S27L0 t0 t3 t7 R w

def A27 : Ann where
  live := fun
    | 0 => [8]
    | _ => []
  wr := fun
    | 0 => fun i => (Nat.ble 4 i && Nat.ble i 5) || (Nat.ble 8 i && Nat.ble i 18)
    | _ => fun _ => false
  sched := fun
    | 4 => (.take 0 (.take 1 (.take 2 (.take 3 (.take 4 (.take 5 .done))))))
    | _ => .done

set_option maxRecDepth 100000 in
theorem ok27 : (codeOk Tryd.f27.ntmps A27 (Tryd.f27.body.getD .skip) 0 && Nat.ble 2 Tryd.f27.ntmps) = true := by kernel_rfl
set_option maxRecDepth 100000 in
theorem lift27 {t0 t1 : Value} {w : World} {R : Ending → World → Prop} (h : S27 t0 t1 w R) : Calls Tryd.prog 27 #[t0, t1] w R :=
  calls_of_cw (fn := Tryd.f27) (c := Tryd.f27.body.getD .skip) A27 mixes Tryd.func27 (by kernel_rfl) ok27
    ((by kernel_rfl : (S27 t0 t1 w R) = cw Tryd.prog A27 (Tryd.f27.body.getD .skip) 0 (bodyQ Tryd.prog Tryd.f27 R) (frOf #[t0, t1]) w).mp h)

def S30 (t0 t1 t2 : Value) (w : World) (R : Ending → World → Prop) : Prop :=
  boxW 63 t0 w fun t3 w =>
  binQ Tryd.prog w .geq 3 true t1 (.int .i64 0) fun t8 =>
  gd t8 true (fun k => k t2 w) w fun t10 w =>
  gd t8 true (fun k => binQ Tryd.prog w .geq 3 true t10 (.int .i64 0) fun v => k v w) w fun t11 w =>
  pickQ t8 t11 (.bool false) fun t12 =>
  gd t12 true (fun k => k t1 w) w fun t14 w =>
  gd t12 true (fun k => fa1 t3 0 fun v => k v w) w fun t15 w =>
  gd t12 true (fun k => ld1 w t15 fun v => k v w) w fun t16 w =>
  gd t12 true (fun k => binQ Tryd.prog w .lss 3 false t14 t16 fun v => k v w) w fun t17 w =>
  pickQ t12 t17 (.bool false) fun t18 =>
  gd t18 true (fun k => k t2 w) w fun t20 w =>
  gd t18 true (fun k => fa1 t3 1 fun v => k v w) w fun t21 w =>
  gd t18 true (fun k => ld1 w t21 fun v => k v w) w fun t22 w =>
  gd t18 true (fun k => binQ Tryd.prog w .lss 3 false t20 t22 fun v => k v w) w fun t23 w =>
  pickQ t18 t23 (.bool false) fun t24 =>
  gd t24 true (fun k => fa1 t3 2 fun v => k v w) w fun t26 w =>
  gd t24 true (fun k => ld1 w t26 fun v => k v w) w fun t27 w =>
  gd t24 true (fun k => k t2 w) w fun t28 w =>
  gd t24 true (fun k => iaS 1 t27 t28 fun v => k v w) w fun t29 w =>
  gd t24 true (fun k => ld1 w t29 fun v => k v w) w fun t30 w =>
  gd t24 true (fun k => k t1 w) w fun t31 w =>
  gd t24 true (fun k => semW Tryd.prog (ixS 9 t30 t31) w k) w fun t32 w =>
  gd t24 true (fun k => binQ Tryd.prog w .eql 5 true t32 (.int .u8 35) fun v => k v w) w fun t33 w =>
  pickQ t24 t33 (.bool false) fun t34 =>
  R (.returned t34) w

def A30 : Ann where
  live := fun _ => []
  wr := fun _ _ => false
  sched := fun _ => .done

set_option maxRecDepth 100000 in
theorem ok30 : (codeOk Tryd.f30.ntmps A30 (Tryd.f30.body.getD .skip) 0 && Nat.ble 3 Tryd.f30.ntmps) = true := by kernel_rfl
set_option maxRecDepth 100000 in
theorem lift30 {t0 t1 t2 : Value} {w : World} {R : Ending → World → Prop} (h : S30 t0 t1 t2 w R) : Calls Tryd.prog 30 #[t0, t1, t2] w R :=
  calls_of_cw (fn := Tryd.f30) (c := Tryd.f30.body.getD .skip) A30 mixes Tryd.func30 (by kernel_rfl) ok30
    ((by kernel_rfl : (S30 t0 t1 t2 w R) = cw Tryd.prog A30 (Tryd.f30.body.getD .skip) 0 (bodyQ Tryd.prog Tryd.f30 R) (frOf #[t0, t1, t2]) w).mp h)

def S35L0 (t1 t3 t10 t11 : Value) (R : Ending → World → Prop) (w : World) : Prop :=
  Loop1 (.int .i64 0) w fun _ t12 w next =>
    binQ Tryd.prog w .lss 3 false t12 t11 fun t13 =>
    condW t13 (
      Join (fun (k_2 : World → Prop) =>
        iaS 2 t10 t12 fun t14 =>
        ldN 2 w t14 fun t15 =>
        boxW 43 (.agg #[(.int .i64 0), (.int .i64 0)]) w fun t5 w =>
        stW Tryd.prog 43 t5 t15 w fun w =>
        ldN 2 w t5 fun t16 =>
        callW Tryd.prog (.func (.func 25) #[] #[]) [t16] w fun t17 w =>
        unQ .not t17 fun t18 =>
        condW t18 (
          k_2 w
        ) (
          mmW w fun t19 w =>
          boxW 79 (.map none) w fun t6 w =>
          stW Tryd.prog 79 t6 t19 w fun w =>
          boxW 74 .nilFunc w fun t7 w =>
          stW Tryd.prog 74 t7 (.func (.func 65) #[] #[t1, t6, t3, t7]) w fun w =>
          ld1 w t7 fun t21 =>
          ldN 2 w t5 fun t22 =>
          callW Tryd.prog t21 [t22] w fun t23 w =>
          k_2 w
        )
      ) fun w =>
      binQ Tryd.prog w .add 3 true t12 (.int .i64 1) fun t24_2 =>
      next t24_2 w
    ) (
      ld1 w t3 fun t25 =>
      R (.returned t25) w
    )



def S35 (t0 : Value) (w : World) (R : Ending → World → Prop) : Prop :=
  boxW 63 t0 w fun t1 w =>
  mmW w fun t8 w =>
  boxW 87 (.map none) w fun t3 w =>
  stW Tryd.prog 87 t3 t8 w fun w =>
  ldN 3 w t1 fun t9 =>
  callW Tryd.prog (.func (.func 24) #[] #[]) [t9] w fun t10 w =>
  ln1 t10 fun t11 =>
  S35L0 t1 t3 t10 t11 R w

def A35 : Ann where
  live := fun
    | 0 => [12]
    | _ => []
  wr := fun
    | 0 => fun i => (Nat.ble 5 i && Nat.ble i 7) || (Nat.ble 12 i && Nat.ble i 24)
    | _ => fun _ => false
  sched := fun _ => .done

set_option maxRecDepth 100000 in
theorem ok35 : (codeOk Tryd.f35.ntmps A35 (Tryd.f35.body.getD .skip) 0 && Nat.ble 1 Tryd.f35.ntmps) = true := by kernel_rfl
set_option maxRecDepth 100000 in
theorem lift35 {t0 : Value} {w : World} {R : Ending → World → Prop} (h : S35 t0 w R) : Calls Tryd.prog 35 #[t0] w R :=
  calls_of_cw (fn := Tryd.f35) (c := Tryd.f35.body.getD .skip) A35 mixes Tryd.func35 (by kernel_rfl) ok35
    ((by kernel_rfl : (S35 t0 w R) = cw Tryd.prog A35 (Tryd.f35.body.getD .skip) 0 (bodyQ Tryd.prog Tryd.f35 R) (frOf #[t0]) w).mp h)

def S36L0 (t0 t1 t7 : Value) (R : Ending → World → Prop) (w : World) : Prop :=
  Loop1 (.int .i64 0) w fun _ t8 w next =>
    binQ Tryd.prog w .lss 3 false t8 t7 fun t9 =>
    condW t9 (
      iaS 2 t0 t8 fun t14 =>
      ldN 2 w t14 fun t15 =>
      callW Tryd.prog t1 [t15] w fun t16 w =>
      condW t16 (
        R (.returned t8) w
      ) (
        binQ Tryd.prog w .add 3 true t8 (.int .i64 1) fun t18 =>
        next t18 w
      )
    ) (
      R (.returned (.int .i64 (-1))) w
    )



def S36 (t0 t1 : Value) (w : World) (R : Ending → World → Prop) : Prop :=
  ln1 t0 fun t7 =>
  S36L0 t0 t1 t7 R w

def A36 : Ann where
  live := fun
    | 0 => [8]
    | _ => []
  wr := fun
    | 0 => fun i => (Nat.ble 4 i && Nat.ble i 5) || (Nat.ble 8 i && Nat.ble i 18)
    | _ => fun _ => false
  sched := fun _ => .done

set_option maxRecDepth 100000 in
theorem ok36 : (codeOk Tryd.f36.ntmps A36 (Tryd.f36.body.getD .skip) 0 && Nat.ble 2 Tryd.f36.ntmps) = true := by kernel_rfl
set_option maxRecDepth 100000 in
theorem lift36 {t0 t1 : Value} {w : World} {R : Ending → World → Prop} (h : S36 t0 t1 w R) : Calls Tryd.prog 36 #[t0, t1] w R :=
  calls_of_cw (fn := Tryd.f36) (c := Tryd.f36.body.getD .skip) A36 mixes Tryd.func36 (by kernel_rfl) ok36
    ((by kernel_rfl : (S36 t0 t1 w R) = cw Tryd.prog A36 (Tryd.f36.body.getD .skip) 0 (bodyQ Tryd.prog Tryd.f36 R) (frOf #[t0, t1]) w).mp h)

def S37 (t0 t1 : Value) (w : World) (R : Ending → World → Prop) : Prop :=
  boxW 43 t0 w fun t2 w =>
  ld1 w t1 fun t7 =>
  ldN 2 w t2 fun t8 =>
  semW Tryd.prog (lkS 87 t7 t8 true) w fun t9 w =>
  exQ t9 0 fun t10 =>
  exQ t9 1 fun t11 =>
  boxW 43 (.agg #[(.int .i64 0), (.int .i64 0)]) w fun t4 w =>
  stW Tryd.prog 43 t4 t10 w fun w =>
  unQ .not t11 fun t13 =>
  R (.returned t13) w

def A37 : Ann where
  live := fun _ => []
  wr := fun _ _ => false
  sched := fun _ => .done

set_option maxRecDepth 100000 in
theorem ok37 : (codeOk Tryd.f37.ntmps A37 (Tryd.f37.body.getD .skip) 0 && Nat.ble 2 Tryd.f37.ntmps) = true := by kernel_rfl
set_option maxRecDepth 100000 in
theorem lift37 {t0 t1 : Value} {w : World} {R : Ending → World → Prop} (h : S37 t0 t1 w R) : Calls Tryd.prog 37 #[t0, t1] w R :=
  calls_of_cw (fn := Tryd.f37) (c := Tryd.f37.body.getD .skip) A37 mixes Tryd.func37 (by kernel_rfl) ok37
    ((by kernel_rfl : (S37 t0 t1 w R) = cw Tryd.prog A37 (Tryd.f37.body.getD .skip) 0 (bodyQ Tryd.prog Tryd.f37 R) (frOf #[t0, t1]) w).mp h)

def S38 (t0 t1 : Value) (w : World) (R : Ending → World → Prop) : Prop :=
  boxW 43 t1 w fun t3 w =>
  ldN 2 w t3 fun t6 =>
  callW Tryd.prog (.func (.func 27) #[] #[]) [t0, t6] w fun t7 w =>
  binQ Tryd.prog w .geq 3 true t7 (.int .i64 0) fun t8 =>
  R (.returned t8) w

def A38 : Ann where
  live := fun _ => []
  wr := fun _ _ => false
  sched := fun _ => .done

set_option maxRecDepth 100000 in
theorem ok38 : (codeOk Tryd.f38.ntmps A38 (Tryd.f38.body.getD .skip) 0 && Nat.ble 2 Tryd.f38.ntmps) = true := by kernel_rfl
set_option maxRecDepth 100000 in
theorem lift38 {t0 t1 : Value} {w : World} {R : Ending → World → Prop} (h : S38 t0 t1 w R) : Calls Tryd.prog 38 #[t0, t1] w R :=
  calls_of_cw (fn := Tryd.f38) (c := Tryd.f38.body.getD .skip) A38 mixes Tryd.func38 (by kernel_rfl) ok38
    ((by kernel_rfl : (S38 t0 t1 w R) = cw Tryd.prog A38 (Tryd.f38.body.getD .skip) 0 (bodyQ Tryd.prog Tryd.f38 R) (frOf #[t0, t1]) w).mp h)

def S40 (t0 t1 : Value) (w : World) (R : Ending → World → Prop) : Prop :=
  boxW 43 t0 w fun t2 w =>
  boxW 43 t1 w fun t3 w =>
  Drew w fun w =>
  fa1 t2 1 fun t5 =>
  ld1 w t5 fun t6 =>
  fa1 t3 1 fun t7 =>
  ld1 w t7 fun t8 =>
  fa1 t2 0 fun t10 =>
  ld1 w t10 fun t11 =>
  fa1 t3 0 fun t12 =>
  ld1 w t12 fun t13 =>
  callW Tryd.prog (.func (.func 69) #[] #[]) [t6, t8] w <| keepB w fun t9 w =>
  callW Tryd.prog (.func (.func 69) #[] #[]) [t11, t13] w fun t14 w =>
  bsW Tryd.prog 31 2 [(0, t9), (1, t14)] w fun t15 w =>
  callW Tryd.prog (.func (.func 68) #[] #[]) [t15] w fun t16 w =>
  R (.returned t16) w

def A40 : Ann where
  live := fun _ => []
  wr := fun _ _ => false
  sched := fun
    | 1 => (.take 0 (.take 1 (.take 2 (.take 3 (.take 5 (.take 6 (.take 7 (.take 8 (.eff 4 (.bar 9 (.bar 10 (.bar 11 (.take 12 .done)))))))))))))
    | _ => .done

set_option maxRecDepth 100000 in
theorem ok40 : (codeOk Tryd.f40.ntmps A40 (Tryd.f40.body.getD .skip) 0 && Nat.ble 2 Tryd.f40.ntmps) = true := by kernel_rfl
set_option maxRecDepth 100000 in
theorem lift40 {t0 t1 : Value} {w : World} {R : Ending → World → Prop} (h : S40 t0 t1 w R) : Calls Tryd.prog 40 #[t0, t1] w R :=
  calls_of_cw (fn := Tryd.f40) (c := Tryd.f40.body.getD .skip) A40 mixes Tryd.func40 (by kernel_rfl) ok40
    ((by kernel_rfl : (S40 t0 t1 w R) = cw Tryd.prog A40 (Tryd.f40.body.getD .skip) 0 (bodyQ Tryd.prog Tryd.f40 R) (frOf #[t0, t1]) w).mp h)

def S52 (t0 t1 : Value) (w : World) (R : Ending → World → Prop) : Prop :=
  lnS t0 fun t5 =>
  ld1 w t1 fun t6 =>
  iaS 1 t6 (.int .i64 0) fun t7 =>
  ld1 w t7 fun t8 =>
  lnS t8 fun t9 =>
  binQ Tryd.prog w .neq 3 false t5 t9 fun t10 =>
  gd t10 false (fun k => k t0 w) w fun t12 w =>
  gd t10 false (fun k => callW Tryd.prog (.func (.func 53) #[] #[]) [t12, (.string ⟨#[35, 46]⟩)] w k) w fun t13 w =>
  gd t10 false (fun k => binQ Tryd.prog w .neq 9 true t13 (.string ⟨#[]⟩) fun v => k v w) w fun t14 w =>
  pickQ t10 (.bool true) t14 fun t15 =>
  R (.returned t15) w

def A52 : Ann where
  live := fun _ => []
  wr := fun _ _ => false
  sched := fun _ => .done

set_option maxRecDepth 100000 in
theorem ok52 : (codeOk Tryd.f52.ntmps A52 (Tryd.f52.body.getD .skip) 0 && Nat.ble 2 Tryd.f52.ntmps) = true := by kernel_rfl
set_option maxRecDepth 100000 in
theorem lift52 {t0 t1 : Value} {w : World} {R : Ending → World → Prop} (h : S52 t0 t1 w R) : Calls Tryd.prog 52 #[t0, t1] w R :=
  calls_of_cw (fn := Tryd.f52) (c := Tryd.f52.body.getD .skip) A52 mixes Tryd.func52 (by kernel_rfl) ok52
    ((by kernel_rfl : (S52 t0 t1 w R) = cw Tryd.prog A52 (Tryd.f52.body.getD .skip) 0 (bodyQ Tryd.prog Tryd.f52 R) (frOf #[t0, t1]) w).mp h)

def S54 (t0 t1 : Value) (w : World) (R : Ending → World → Prop) : Prop :=
  callW Tryd.prog (.func (.func 80) #[] #[]) [t0, t1] w fun t7 w =>
  binQ Tryd.prog w .geq 3 true t7 (.int .i64 0) fun t8 =>
  R (.returned t8) w

def A54 : Ann where
  live := fun _ => []
  wr := fun _ _ => false
  sched := fun _ => .done

set_option maxRecDepth 100000 in
theorem ok54 : (codeOk Tryd.f54.ntmps A54 (Tryd.f54.body.getD .skip) 0 && Nat.ble 2 Tryd.f54.ntmps) = true := by kernel_rfl
set_option maxRecDepth 100000 in
theorem lift54 {t0 t1 : Value} {w : World} {R : Ending → World → Prop} (h : S54 t0 t1 w R) : Calls Tryd.prog 54 #[t0, t1] w R :=
  calls_of_cw (fn := Tryd.f54) (c := Tryd.f54.body.getD .skip) A54 mixes Tryd.func54 (by kernel_rfl) ok54
    ((by kernel_rfl : (S54 t0 t1 w R) = cw Tryd.prog A54 (Tryd.f54.body.getD .skip) 0 (bodyQ Tryd.prog Tryd.f54 R) (frOf #[t0, t1]) w).mp h)

def S55 (t0 t1 : Value) (w : World) (R : Ending → World → Prop) : Prop :=
  boxW 68 t0 w fun t2 w =>
  boxW 72 t1 w fun t3 w =>
  boxW 72 (.agg #[(.int .i64 0), (.int .i64 0)]) w fun t4 w =>
  Drew w fun w =>
  fa1 t3 0 fun t7 =>
  ld1 w t7 fun t8 =>
  fa1 t2 0 fun t9 =>
  fa1 t9 0 fun t10 =>
  ld1 w t10 fun t11 =>
  binQ Tryd.prog w .rem 3 false t8 t11 fun t12 =>
  fa1 t3 0 fun t13 =>
  ld1 w t13 fun t14 =>
  fa1 t2 0 fun t15 =>
  fa1 t15 0 fun t16 =>
  ld1 w t16 fun t17 =>
  binQ Tryd.prog w .quo 3 false t14 t17 fun t18 =>
  fa1 t2 0 fun t19 =>
  ldN 3 w t19 fun t20 =>
  callW Tryd.prog (.func (.func 30) #[] #[]) [t20, t12, t18] w fun t23 w =>
  unQ .not t23 fun t24 =>
  gd t24 false (fun k => fa1 t3 1 fun v => k v w) w fun t26 w =>
  gd t24 false (fun k => ld1 w t26 fun v => k v w) w fun t27 w =>
  gd t24 false (fun k => binQ Tryd.prog w .and 3 true t27 (.int .i64 1) fun v => k v w) w fun t28 w =>
  gd t24 false (fun k => binQ Tryd.prog w .neq 3 true t28 (.int .i64 0) fun v => k v w) w fun t29 w =>
  pickQ t24 (.bool true) t29 fun t30 =>
  gd t30 false (fun k => k t12 w) w fun t32 w =>
  gd t30 false (fun k => binQ Tryd.prog w .add 3 true t32 (.int .i64 1) fun v => k v w) w fun t33 w =>
  gd t30 false (fun k => fa1 t2 0 fun v => k v w) w fun t34 w =>
  gd t30 false (fun k => fa1 t34 0 fun v => k v w) w fun t35 w =>
  gd t30 false (fun k => ld1 w t35 fun v => k v w) w fun t36 w =>
  gd t30 false (fun k => binQ Tryd.prog w .eql 3 false t33 t36 fun v => k v w) w fun t37 w =>
  pickQ t30 (.bool true) t37 fun t38 =>
  gd t38 false (fun k => fa1 t2 0 fun v => k v w) w fun t40 w =>
  gd t38 false (fun k => ldN 3 w t40 fun v => k v w) w fun t41 w =>
  gd t38 false (fun k => k t12 w) w fun t42 w =>
  gd t38 false (fun k => binQ Tryd.prog w .add 3 true t42 (.int .i64 1) fun v => k v w) w fun t43 w =>
  gd t38 false (fun k => k t18 w) w fun t44 w =>
  gd t38 false (fun k => callW Tryd.prog (.func (.func 30) #[] #[]) [t41, t43, t44] w k) w fun t45 w =>
  gd t38 false (fun k => unQ .not t45 fun v => k v w) w fun t46 w =>
  pickQ t38 (.bool true) t46 fun t47 =>
  gd t47 false (fun k => fa1 t3 1 fun v => k v w) w fun t49 w =>
  gd t47 false (fun k => ld1 w t49 fun v => k v w) w fun t50 w =>
  gd t47 false (fun k => binQ Tryd.prog w .and 3 true t50 (.int .i64 2) fun v => k v w) w fun t51 w =>
  gd t47 false (fun k => binQ Tryd.prog w .neq 3 true t51 (.int .i64 0) fun v => k v w) w fun t52 w =>
  pickQ t47 (.bool true) t52 fun t53 =>
  condW t53 (
    bdQ Tryd.prog 72 [] fun t54 =>
    stW Tryd.prog 72 t4 t54 w fun w =>
    ldN 2 w t4 fun r =>
    R (.returned r) w
  ) (
    fa1 t3 0 fun t55 =>
    ld1 w t55 fun t56 =>
    binQ Tryd.prog w .add 3 true t56 (.int .i64 1) fun t57 =>
    fa1 t3 1 fun t58 =>
    ld1 w t58 fun t59 =>
    binQ Tryd.prog w .shr 3 true t59 (.int .u64 1) fun t60 =>
    binQ Tryd.prog w .or 3 true t60 (.int .i64 1) fun t61 =>
    bdQ Tryd.prog 72 [(0, t57), (1, t61)] fun t62 =>
    stW Tryd.prog 72 t4 t62 w fun w =>
    ldN 2 w t4 fun r_2 =>
    R (.returned r_2) w
  )

def A55 : Ann where
  live := fun _ => []
  wr := fun _ _ => false
  sched := fun
    | 1 => (.take 0 (.take 1 (.take 2 (.take 3 (.take 4 (.take 5 (.take 6 (.take 7 (.take 8 (.take 9 (.take 10 (.take 11 (.take 12 (.take 13 .done))))))))))))))
    | _ => .done

set_option maxRecDepth 100000 in
theorem ok55 : (codeOk Tryd.f55.ntmps A55 (Tryd.f55.body.getD .skip) 0 && Nat.ble 2 Tryd.f55.ntmps) = true := by kernel_rfl
set_option maxRecDepth 100000 in
theorem lift55 {t0 t1 : Value} {w : World} {R : Ending → World → Prop} (h : S55 t0 t1 w R) : Calls Tryd.prog 55 #[t0, t1] w R :=
  calls_of_cw (fn := Tryd.f55) (c := Tryd.f55.body.getD .skip) A55 mixes Tryd.func55 (by kernel_rfl) ok55
    ((by kernel_rfl : (S55 t0 t1 w R) = cw Tryd.prog A55 (Tryd.f55.body.getD .skip) 0 (bodyQ Tryd.prog Tryd.f55 R) (frOf #[t0, t1]) w).mp h)

def S56 (t0 t1 : Value) (w : World) (R : Ending → World → Prop) : Prop :=
  boxW 68 t0 w fun t2 w =>
  boxW 72 t1 w fun t3 w =>
  boxW 72 (.agg #[(.int .i64 0), (.int .i64 0)]) w fun t4 w =>
  Drew w fun w =>
  fa1 t3 0 fun t7 =>
  ld1 w t7 fun t8 =>
  fa1 t2 0 fun t9 =>
  fa1 t9 0 fun t10 =>
  ld1 w t10 fun t11 =>
  binQ Tryd.prog w .rem 3 false t8 t11 fun t12 =>
  fa1 t3 0 fun t13 =>
  ld1 w t13 fun t14 =>
  fa1 t2 0 fun t15 =>
  fa1 t15 0 fun t16 =>
  ld1 w t16 fun t17 =>
  binQ Tryd.prog w .quo 3 false t14 t17 fun t18 =>
  fa1 t2 0 fun t19 =>
  ldN 3 w t19 fun t20 =>
  callW Tryd.prog (.func (.func 30) #[] #[]) [t20, t12, t18] w fun t23 w =>
  unQ .not t23 fun t24 =>
  gd t24 false (fun k => fa1 t3 1 fun v => k v w) w fun t26 w =>
  gd t24 false (fun k => ld1 w t26 fun v => k v w) w fun t27 w =>
  gd t24 false (fun k => binQ Tryd.prog w .and 3 true t27 (.int .i64 1) fun v => k v w) w fun t28 w =>
  gd t24 false (fun k => binQ Tryd.prog w .neq 3 true t28 (.int .i64 0) fun v => k v w) w fun t29 w =>
  pickQ t24 (.bool true) t29 fun t30 =>
  gd t30 false (fun k => fa1 t2 0 fun v => k v w) w fun t32 w =>
  gd t30 false (fun k => ldN 3 w t32 fun v => k v w) w fun t33 w =>
  gd t30 false (fun k => k t12 w) w fun t34 w =>
  gd t30 false (fun k => k t18 w) w fun t35 w =>
  gd t30 false (fun k => binQ Tryd.prog w .add 3 true t35 (.int .i64 1) fun v => k v w) w fun t36 w =>
  gd t30 false (fun k => callW Tryd.prog (.func (.func 30) #[] #[]) [t33, t34, t36] w k) w fun t37 w =>
  gd t30 false (fun k => unQ .not t37 fun v => k v w) w fun t38 w =>
  pickQ t30 (.bool true) t38 fun t39 =>
  condW t39 (
    bdQ Tryd.prog 72 [] fun t40 =>
    stW Tryd.prog 72 t4 t40 w fun w =>
    ldN 2 w t4 fun r =>
    R (.returned r) w
  ) (
    Drew w fun w =>
    fa1 t3 0 fun t41 =>
    ld1 w t41 fun t42 =>
    binQ Tryd.prog w .add 3 true t42 (.int .i64 1) fun t43 =>
    fa1 t3 1 fun t44 =>
    ld1 w t44 fun t45 =>
    binQ Tryd.prog w .shr 3 true t45 (.int .u64 1) fun t46 =>
    fa1 t2 0 fun t47 =>
    fa1 t47 0 fun t48 =>
    ld1 w t48 fun t49 =>
    binQ Tryd.prog w .sub 3 true t49 (.int .i64 1) fun t50 =>
    binQ Tryd.prog w .shl 3 true (.int .i64 1) t50 fun t51 =>
    binQ Tryd.prog w .or 3 false t46 t51 fun t52 =>
    bdQ Tryd.prog 72 [(0, t43), (1, t52)] fun t53 =>
    stW Tryd.prog 72 t4 t53 w fun w =>
    ldN 2 w t4 fun r_2 =>
    R (.returned r_2) w
  )

def A56 : Ann where
  live := fun _ => []
  wr := fun _ _ => false
  sched := fun
    | 1 => (.take 0 (.take 1 (.take 2 (.take 3 (.take 4 (.take 5 (.take 6 (.take 7 (.take 8 (.take 9 (.take 10 (.take 11 (.take 12 (.take 13 .done))))))))))))))
    | 4 => (.take 0 (.take 1 (.take 2 (.take 3 (.take 4 (.take 5 (.take 6 (.take 7 (.take 8 (.take 9 (.take 10 (.take 11 (.take 12 (.bar 13 .done))))))))))))))
    | _ => .done

set_option maxRecDepth 100000 in
theorem ok56 : (codeOk Tryd.f56.ntmps A56 (Tryd.f56.body.getD .skip) 0 && Nat.ble 2 Tryd.f56.ntmps) = true := by kernel_rfl
set_option maxRecDepth 100000 in
theorem lift56 {t0 t1 : Value} {w : World} {R : Ending → World → Prop} (h : S56 t0 t1 w R) : Calls Tryd.prog 56 #[t0, t1] w R :=
  calls_of_cw (fn := Tryd.f56) (c := Tryd.f56.body.getD .skip) A56 mixes Tryd.func56 (by kernel_rfl) ok56
    ((by kernel_rfl : (S56 t0 t1 w R) = cw Tryd.prog A56 (Tryd.f56.body.getD .skip) 0 (bodyQ Tryd.prog Tryd.f56 R) (frOf #[t0, t1]) w).mp h)

def S57 (t0 t1 : Value) (w : World) (R : Ending → World → Prop) : Prop :=
  boxW 68 t0 w fun t2 w =>
  boxW 72 t1 w fun t3 w =>
  boxW 72 (.agg #[(.int .i64 0), (.int .i64 0)]) w fun t4 w =>
  Drew w fun w =>
  fa1 t3 0 fun t7 =>
  ld1 w t7 fun t8 =>
  fa1 t2 0 fun t9 =>
  fa1 t9 0 fun t10 =>
  ld1 w t10 fun t11 =>
  binQ Tryd.prog w .rem 3 false t8 t11 fun t12 =>
  fa1 t3 0 fun t13 =>
  ld1 w t13 fun t14 =>
  fa1 t2 0 fun t15 =>
  fa1 t15 0 fun t16 =>
  ld1 w t16 fun t17 =>
  binQ Tryd.prog w .quo 3 false t14 t17 fun t18 =>
  fa1 t2 0 fun t19 =>
  ldN 3 w t19 fun t20 =>
  callW Tryd.prog (.func (.func 30) #[] #[]) [t20, t12, t18] w fun t23 w =>
  gd t23 true (fun k => fa1 t3 1 fun v => k v w) w fun t25 w =>
  gd t23 true (fun k => ld1 w t25 fun v => k v w) w fun t26 w =>
  gd t23 true (fun k => binQ Tryd.prog w .and 3 true t26 (.int .i64 1) fun v => k v w) w fun t27 w =>
  gd t23 true (fun k => binQ Tryd.prog w .eql 3 true t27 (.int .i64 0) fun v => k v w) w fun t28 w =>
  pickQ t23 t28 (.bool false) fun t29 =>
  condW t29 (
    bdQ Tryd.prog 72 [] fun t30 =>
    stW Tryd.prog 72 t4 t30 w fun w =>
    ldN 2 w t4 fun r =>
    R (.returned r) w
  ) (
    fa1 t3 0 fun t31 =>
    ld1 w t31 fun t32 =>
    binQ Tryd.prog w .add 3 true t32 (.int .i64 1) fun t33 =>
    fa1 t3 1 fun t34 =>
    ld1 w t34 fun t35 =>
    binQ Tryd.prog w .shr 3 true t35 (.int .u64 1) fun t36 =>
    bdQ Tryd.prog 72 [(0, t33), (1, t36)] fun t37 =>
    stW Tryd.prog 72 t4 t37 w fun w =>
    ldN 2 w t4 fun r_2 =>
    R (.returned r_2) w
  )

def A57 : Ann where
  live := fun _ => []
  wr := fun _ _ => false
  sched := fun
    | 1 => (.take 0 (.take 1 (.take 2 (.take 3 (.take 4 (.take 5 (.take 6 (.take 7 (.take 8 (.take 9 (.take 10 (.take 11 (.take 12 (.take 13 .done))))))))))))))
    | _ => .done

set_option maxRecDepth 100000 in
theorem ok57 : (codeOk Tryd.f57.ntmps A57 (Tryd.f57.body.getD .skip) 0 && Nat.ble 2 Tryd.f57.ntmps) = true := by kernel_rfl
set_option maxRecDepth 100000 in
theorem lift57 {t0 t1 : Value} {w : World} {R : Ending → World → Prop} (h : S57 t0 t1 w R) : Calls Tryd.prog 57 #[t0, t1] w R :=
  calls_of_cw (fn := Tryd.f57) (c := Tryd.f57.body.getD .skip) A57 mixes Tryd.func57 (by kernel_rfl) ok57
    ((by kernel_rfl : (S57 t0 t1 w R) = cw Tryd.prog A57 (Tryd.f57.body.getD .skip) 0 (bodyQ Tryd.prog Tryd.f57 R) (frOf #[t0, t1]) w).mp h)

def S65L0 (t2 t3 t4 t5 t13 t14 : Value) (R : Ending → World → Prop) (w : World) : Prop :=
  Loop1 (.int .i64 0) w fun _ t15 w next =>
    binQ Tryd.prog w .lss 3 false t15 t14 fun t16 =>
    condW t16 (
      Join (fun (k_2 : World → Prop) =>
        iaS 2 t13 t15 fun t17 =>
        ldN 2 w t17 fun t18 =>
        boxW 43 (.agg #[(.int .i64 0), (.int .i64 0)]) w fun t8 w =>
        stW Tryd.prog 43 t8 t18 w fun w =>
        ld1 w t2 fun t19 =>
        ldN 2 w t8 fun t20 =>
        semW Tryd.prog (lkS 79 t19 t20 false) w fun t21 w =>
        condW t21 (
          k_2 w
        ) (
          ld1 w t2 fun t22 =>
          ldN 2 w t8 fun t23 =>
          semW Tryd.prog (muS 79 t22 t23 (.bool true)) w fun _ w =>
          ld1 w t3 fun t25 =>
          ldN 2 w t8 fun t26 =>
          semW Tryd.prog (lkS 87 t25 t26 true) w fun t27 w =>
          exQ t27 0 fun t28 =>
          exQ t27 1 fun t29 =>
          boxW 43 (.agg #[(.int .i64 0), (.int .i64 0)]) w fun t9 w =>
          stW Tryd.prog 43 t9 t28 w fun w =>
          unQ .not t29 fun t31 =>
          gd t31 false (fun k => ld1 w t4 fun v => k v w) w fun t33 w =>
          gd t31 false (fun k => ldN 2 w t9 fun v => k v w) w fun t34 w =>
          gd t31 false (fun k => callW Tryd.prog t33 [t34] w k) w fun t35 w =>
          pickQ t31 (.bool true) t35 fun t36 =>
          condW t36 (
            Drew w fun w =>
            ∃ X : Nat → Prop,
            ld1 w t3 fun t37 =>
            ldN 2 w t8 fun t38 =>
            takeX X w (fun w k => ld1 w t3 k) fun t39 =>
            takeX X w (fun w k => ldN 2 w t5 k) fun t40 =>
            ldN 2 w t5 fun t41 =>
            takeX X w (fun w k => ldN 2 w t8 k) fun t42 =>
            semW Tryd.prog (muS 87 t37 t38 t41) w <| keepX X w fun _ w =>
            semW Tryd.prog (muS 87 t39 t40 t42) w fun _ w =>
            R (.returned (.bool true)) w
          ) (
            k_2 w
          )
        )
      ) fun w =>
      binQ Tryd.prog w .add 3 true t15 (.int .i64 1) fun t43_2 =>
      next t43_2 w
    ) (
      R (.returned (.bool false)) w
    )



def S65 (t0 t1 t2 t3 t4 : Value) (w : World) (R : Ending → World → Prop) : Prop :=
  boxW 43 t0 w fun t5 w =>
  ldN 3 w t1 fun t11 =>
  ldN 2 w t5 fun t12 =>
  callW Tryd.prog (.func (.func 26) #[] #[]) [t11, t12] w fun t13 w =>
  ln1 t13 fun t14 =>
  S65L0 t2 t3 t4 t5 t13 t14 R w

def A65 : Ann where
  live := fun
    | 0 => [15]
    | _ => []
  wr := fun
    | 0 => fun i => Nat.beq i 6 || (Nat.ble 8 i && Nat.ble i 10) || (Nat.ble 15 i && Nat.ble i 43)
    | _ => fun _ => false
  sched := fun
    | 8 => (.cls (.take 0 (.take 1 (.take 2 (.take 3 (.take 4 (.take 5 (.eff 6 (.bar 7 .done)))))))))
    | _ => .done

set_option maxRecDepth 100000 in
theorem ok65 : (codeOk Tryd.f65.ntmps A65 (Tryd.f65.body.getD .skip) 0 && Nat.ble 5 Tryd.f65.ntmps) = true := by kernel_rfl
set_option maxRecDepth 100000 in
theorem lift65 {t0 t1 t2 t3 t4 : Value} {w : World} {R : Ending → World → Prop} (h : S65 t0 t1 t2 t3 t4 w R) : Calls Tryd.prog 65 #[t0, t1, t2, t3, t4] w R :=
  calls_of_cw (fn := Tryd.f65) (c := Tryd.f65.body.getD .skip) A65 mixes Tryd.func65 (by kernel_rfl) ok65
    ((by kernel_rfl : (S65 t0 t1 t2 t3 t4 w R) = cw Tryd.prog A65 (Tryd.f65.body.getD .skip) 0 (bodyQ Tryd.prog Tryd.f65 R) (frOf #[t0, t1, t2, t3, t4]) w).mp h)

def S80L0 (t0 t1 t7 : Value) (R : Ending → World → Prop) (w : World) : Prop :=
  Loop1 (.int .i64 0) w fun _ t8 w next =>
    binQ Tryd.prog w .lss 3 false t8 t7 fun t9 =>
    condW t9 (
      iaS 1 t0 t8 fun t14 =>
      ld1 w t14 fun t15 =>
      callW Tryd.prog t1 [t15] w fun t16 w =>
      condW t16 (
        R (.returned t8) w
      ) (
        binQ Tryd.prog w .add 3 true t8 (.int .i64 1) fun t18 =>
        next t18 w
      )
    ) (
      R (.returned (.int .i64 (-1))) w
    )



def S80 (t0 t1 : Value) (w : World) (R : Ending → World → Prop) : Prop :=
  ln1 t0 fun t7 =>
  S80L0 t0 t1 t7 R w

def A80 : Ann where
  live := fun
    | 0 => [8]
    | _ => []
  wr := fun
    | 0 => fun i => (Nat.ble 4 i && Nat.ble i 5) || (Nat.ble 8 i && Nat.ble i 18)
    | _ => fun _ => false
  sched := fun _ => .done

set_option maxRecDepth 100000 in
theorem ok80 : (codeOk Tryd.f80.ntmps A80 (Tryd.f80.body.getD .skip) 0 && Nat.ble 2 Tryd.f80.ntmps) = true := by kernel_rfl
set_option maxRecDepth 100000 in
theorem lift80 {t0 t1 : Value} {w : World} {R : Ending → World → Prop} (h : S80 t0 t1 w R) : Calls Tryd.prog 80 #[t0, t1] w R :=
  calls_of_cw (fn := Tryd.f80) (c := Tryd.f80.body.getD .skip) A80 mixes Tryd.func80 (by kernel_rfl) ok80
    ((by kernel_rfl : (S80 t0 t1 w R) = cw Tryd.prog A80 (Tryd.f80.body.getD .skip) 0 (bodyQ Tryd.prog Tryd.f80 R) (frOf #[t0, t1]) w).mp h)

theorem fok5 : fnOk Tryd.prog 5 = true := by kernel_rfl
theorem fok6 : fnOk Tryd.prog 6 = true := by kernel_rfl
theorem fok8 : fnOk Tryd.prog 8 = true := by kernel_rfl
theorem fok9 : fnOk Tryd.prog 9 = true := by kernel_rfl
theorem fok14 : fnOk Tryd.prog 14 = true := by kernel_rfl
theorem fok21 : fnOk Tryd.prog 21 = true := by kernel_rfl
theorem fok22 : fnOk Tryd.prog 22 = true := by kernel_rfl
theorem fok23 : fnOk Tryd.prog 23 = true := by kernel_rfl
theorem fok24 : fnOk Tryd.prog 24 = true := by kernel_rfl
theorem fok25 : fnOk Tryd.prog 25 = true := by kernel_rfl
theorem fok26 : fnOk Tryd.prog 26 = true := by kernel_rfl
theorem fok27 : fnOk Tryd.prog 27 = true := by kernel_rfl
theorem fok30 : fnOk Tryd.prog 30 = true := by kernel_rfl
theorem fok35 : fnOk Tryd.prog 35 = true := by kernel_rfl
theorem fok36 : fnOk Tryd.prog 36 = true := by kernel_rfl
theorem fok37 : fnOk Tryd.prog 37 = true := by kernel_rfl
theorem fok38 : fnOk Tryd.prog 38 = true := by kernel_rfl
theorem fok40 : fnOk Tryd.prog 40 = true := by kernel_rfl
theorem fok52 : fnOk Tryd.prog 52 = true := by kernel_rfl
theorem fok54 : fnOk Tryd.prog 54 = true := by kernel_rfl
theorem fok55 : fnOk Tryd.prog 55 = true := by kernel_rfl
theorem fok56 : fnOk Tryd.prog 56 = true := by kernel_rfl
theorem fok57 : fnOk Tryd.prog 57 = true := by kernel_rfl
theorem fok65 : fnOk Tryd.prog 65 = true := by kernel_rfl
theorem fok80 : fnOk Tryd.prog 80 = true := by kernel_rfl
end Go.Proofs.YtbekeccfjmoonaaDoor

/- Strings: what memory holds of them, bytes; the contract of strings.Trim, by the shelf; few. -/
namespace Go.Proofs.YtbekeccfjmoonaaDoor
open Go.Lf Go.RowKit Go.Shelf Go.Proofs

def trimR_ren : Go.Shelf.Ren := ⟨fun | 160 => 53 | 232 => 74 | 231 => 73 | 227 => 75 | 234 => 77 | 233 => 76 | 236 => 79 | 235 => 78 | 228 => 94 | 271 => 97 | 151 => 96 | 197 => 95 | 120 => 105 | 152 => 104 | 260 => 103 | 137 => 107 | 119 => 108 | 224 => 109 | 225 => 110 | 217 => 111 | 266 => 112 | n => n, fun | 9 => 9 | 4 => 4 | 3 => 3 | 5 => 5 | 117 => 129 | 116 => 128 | 0 => 0 | 124 => 132 | 21 => 21 | 105 => 148 | 46 => 122 | 119 => 161 | 139 => 164 | 138 => 163 | n => n, fun | 3 => 1 | 4 => 2 | n => n⟩
set_option maxRecDepth 100000 in
theorem trimR : Go.Proofs.Lays.n160 Tryd.prog trimR_ren :=
  { mixed := by kernel_rfl,
    f119 := Tryd.func108.trans (congrArg some (by kernel_rfl)),
    f120 := Tryd.func105.trans (congrArg some (by kernel_rfl)),
    f137 := Tryd.func107.trans (congrArg some (by kernel_rfl)),
    f151 := Tryd.func96.trans (congrArg some (by kernel_rfl)),
    f152 := Tryd.func104.trans (congrArg some (by kernel_rfl)),
    f160 := Tryd.func53.trans (congrArg some (by kernel_rfl)),
    f197 := Tryd.func95.trans (congrArg some (by kernel_rfl)),
    f217 := Tryd.func111.trans (congrArg some (by kernel_rfl)),
    f224 := Tryd.func109.trans (congrArg some (by kernel_rfl)),
    f225 := Tryd.func110.trans (congrArg some (by kernel_rfl)),
    f227 := Tryd.func75.trans (congrArg some (by kernel_rfl)),
    f228 := Tryd.func94.trans (congrArg some (by kernel_rfl)),
    f231 := Tryd.func73.trans (congrArg some (by kernel_rfl)),
    f232 := Tryd.func74.trans (congrArg some (by kernel_rfl)),
    f233 := Tryd.func76.trans (congrArg some (by kernel_rfl)),
    f234 := Tryd.func77.trans (congrArg some (by kernel_rfl)),
    f235 := Tryd.func78.trans (congrArg some (by kernel_rfl)),
    f236 := Tryd.func79.trans (congrArg some (by kernel_rfl)),
    f260 := Tryd.func103.trans (congrArg some (by kernel_rfl)),
    f266 := Tryd.func112.trans (congrArg some (by kernel_rfl)),
    f271 := Tryd.func97.trans (congrArg some (by kernel_rfl)),
    t0 := Tryd.underlying0,
    a0 := Tryd.isAgg0,
    z0 := Tryd.sizeOf0,
    v0 := Tryd.zeroValue0,
    t3 := Tryd.underlying3,
    a3 := Tryd.isAgg3,
    z3 := Tryd.sizeOf3,
    v3 := Tryd.zeroValue3,
    t4 := Tryd.underlying4,
    a4 := Tryd.isAgg4,
    z4 := Tryd.sizeOf4,
    v4 := Tryd.zeroValue4,
    t5 := Tryd.underlying5,
    a5 := Tryd.isAgg5,
    z5 := Tryd.sizeOf5,
    v5 := Tryd.zeroValue5,
    t9 := Tryd.underlying9,
    a9 := Tryd.isAgg9,
    z9 := Tryd.sizeOf9,
    v9 := Tryd.zeroValue9,
    t21 := Tryd.underlying21,
    a21 := Tryd.isAgg21,
    z21 := Tryd.sizeOf21,
    v21 := Tryd.zeroValue21,
    t46 := Tryd.underlying122,
    a46 := Tryd.isAgg122,
    z46 := Tryd.sizeOf122,
    v46 := Tryd.zeroValue122,
    t105 := Tryd.underlying148,
    a105 := Tryd.isAgg148,
    z105 := Tryd.sizeOf148,
    v105 := Tryd.zeroValue148,
    t116 := Tryd.underlying128,
    a116 := Tryd.isAgg128,
    z116 := Tryd.sizeOf128,
    t117 := Tryd.underlying129,
    a117 := Tryd.isAgg129,
    z117 := Tryd.sizeOf129,
    v117 := Tryd.zeroValue129,
    t119 := Tryd.underlying161,
    a119 := Tryd.isAgg161,
    z119 := Tryd.sizeOf161,
    t124 := Tryd.underlying132,
    a124 := Tryd.isAgg132,
    z124 := Tryd.sizeOf132,
    v124 := Tryd.zeroValue132,
    t138 := Tryd.underlying163,
    a138 := Tryd.isAgg163,
    z138 := Tryd.sizeOf163,
    v138 := Tryd.zeroValue163,
    t139 := Tryd.underlying164,
    a139 := Tryd.isAgg164,
    z139 := Tryd.sizeOf164,
    v139 := Tryd.zeroValue164,
    g3 := by kernel_rfl,
    g4 := by kernel_rfl }

def SameW (a b : World) : Prop := a = b
def sC (s : ByteArray) : List Value := [.string s]
theorem sC_len (s : ByteArray) : (sC s).length = 1 := rfl
abbrev RdB (w : World) (v : Value) (l : List ByteArray) : Prop := Rd 1 sC w v l
theorem str_at {w : World} {v : Value} {l : List ByteArray} (h : RdB w v l) {i : Nat} (hi : i < l.length) (K : Value → Prop) : (iaS 1 v (.int .i64 i) fun p => ld1 w p K) = K (.string (l.getD i ⟨#[]⟩)) := by
  obtain ⟨b, off, cap, e, _, hc⟩ := h.at (List.getElem?_eq_getElem hi)
  have hii : (i : Int).toNat = i := by omega
  have h0 := hc 0 _ rfl
  rw [Nat.mul_one, Nat.add_zero] at h0
  rw [e, r_iaS _ _ _ _ _ _ _ (by omega) (by omega), hii, Nat.mul_one, r_ld h0, getD_lt _ _ _ hi]
theorem r_lnS (s : ByteArray) (K : Value → Prop) : lnS (.string s) K = K (.int .i64 s.size) := rfl
theorem und9 : Tryd.prog.underlying 9 = some .string := by kernel_rfl

/-- Are all bytes of a string of the cutset? -/
def plainB (s : ByteArray) : Bool := s.data.toList.all fun b => b == 35 || b == 46
theorem dropWhile_all {p : UInt8 → Bool} : ∀ {l : List UInt8}, l.dropWhile p = [] ↔ l.all p = true
  | [] => by simp
  | a :: l => by
    by_cases h : p a = true
    · rw [List.dropWhile_cons_of_pos h, List.all_cons, h, Bool.true_and]; exact dropWhile_all
    · have h : p a = false := by simpa using h
      rw [List.dropWhile_cons_of_neg (by simp [h]), List.all_cons, h]; simp
theorem trim_plain (s : ByteArray) : Lib.trimS s.data.toList [35, 46] = [] ↔ plainB s = true := by
  have hc : ∀ b : UInt8, [35, 46].contains b = (b == 35 || b == 46) := fun b => by simp [List.contains, List.elem]; cases (b == 35) <;> cases (b == 46) <;> rfl
  unfold Lib.trimS Lib.trimLeftS Lib.trimRightS plainB
  rw [dropWhile_all]
  constructor
  · intro h
    have h1 : (s.data.toList.reverse.dropWhile fun x => [35, 46].contains x) = [] := by
      refine Classical.byContradiction fun hne => ?_
      obtain ⟨a, t, e⟩ : ∃ a t, (s.data.toList.reverse.dropWhile fun x => [35, 46].contains x) = a :: t := by
        cases q : (s.data.toList.reverse.dropWhile fun x => [35, 46].contains x) with
        | nil => exact absurd q hne
        | cons a t => exact ⟨a, t, rfl⟩
      have hn : [35, 46].contains a = false := by
        have := List.head?_dropWhile_not (fun x => [35, 46].contains x) s.data.toList.reverse
        rw [e] at this
        simpa using this
      have := List.all_eq_true.1 h a (by rw [e]; simp)
      rw [hn] at this; cases this
    rw [dropWhile_all, List.all_reverse] at h1
    rw [List.all_eq_true] at h1 ⊢
    intro b hb
    rw [← hc]; exact h1 b hb
  · intro h
    have h1 : (s.data.toList.reverse.dropWhile fun x => [35, 46].contains x) = [] := by
      rw [dropWhile_all, List.all_reverse, List.all_eq_true]
      intro b hb
      rw [hc]; exact List.all_eq_true.1 h b hb
    rw [h1]; rfl

set_option maxRecDepth 100000 in
theorem trim_calls (s : ByteArray) (w : World) (hs : s.size ≤ 9223372036854775807) : Calls Tryd.prog 53 #[.string s, .string ⟨#[35, 46]⟩] w fun e w' => Kp w w' ∧ ∃ r : ByteArray, e = .returned (.string r) ∧ (r = ⟨#[]⟩ ↔ plainB s = true) := by
  have h := Any.strings_Trim_laid trimR (by kernel_rfl) s ⟨#[35, 46]⟩ w hs (by decide) (ascii_of_all (by decide))
  refine h.mono ?_
  rintro e w' ⟨rfl, hB⟩
  refine ⟨hB, _, rfl, ?_⟩
  rw [← trim_plain]
  constructor
  · intro e
    have := congrArg (fun b : ByteArray => b.data.toList) e
    simpa using this
  · intro e
    show (⟨(Lib.trimS s.data.toList [35, 46]).toArray⟩ : ByteArray) = _
    rw [e]

/-- Are strings few and short? -/
def fewB (l : List ByteArray) : Bool := decide (l.length ≤ 20) && l.all fun s => decide (s.size ≤ 20)
set_option maxRecDepth 100000 in
theorem few_calls {v : Value} {l : List ByteArray} (w : World) (hr : RdB w v l) : Calls Tryd.prog 5 #[v] w fun e w' => e = .returned (.bool (fewB l)) ∧ w = w' := by
  obtain ⟨a, cap, ev, _⟩ := hr.len
  have lnv : ∀ K : Value → Prop, ln1 v K = K (.int .i64 l.length) := fun K => by rw [ev]; rfl
  refine lift5 ?_
  unfold S5 S5L0
  refine ⟨fun t3 wr => ∃ i : Nat, i ≤ l.length ∧ i ≤ 20 ∧ t3 = .int .i64 i ∧ (∀ j, j < i → (l.getD j ⟨#[]⟩).size ≤ 20) ∧ SameW w wr, fun t3 _ => l.length - (intOf t3).toNat, ⟨0, by omega, by omega, rfl, fun j hj => by omega, rfl⟩, ?_⟩
  rintro _ _ wr ⟨i, hi, h20, rfl, hall, rfl⟩
  rw [lnv]
  by_cases hlt : i < l.length
  case neg =>
    have hlt' : ¬ (i : Int) < (l.length : Int) := by omega
    rw [r_lss, decide_eq_false hlt', r_condF]
    refine ⟨ret_bool ?_, rfl⟩
    unfold fewB
    rw [decide_eq_true (show l.length ≤ 20 by omega), Bool.true_and]
    refine (List.all_eq_true.2 fun s hs => ?_).symm
    obtain ⟨j, hj, rfl⟩ := List.getElem_of_mem hs
    have := hall j (by omega)
    rw [getD_lt _ _ _ hj] at this
    exact decide_eq_true this
  have hlt' : (i : Int) < (l.length : Int) := by omega
  rw [r_lss, decide_eq_true hlt', r_condT, r_geq]
  by_cases g1 : (20 : Int) ≤ (i : Int)
  · rw [decide_eq_true g1]
    simp only [r_gdTF, r_gdU, r_pickT, r_condT]
    refine ⟨ret_bool ?_, by first | rfl | trivial⟩
    unfold fewB
    rw [decide_eq_false (show ¬ l.length ≤ 20 by omega)]; rfl
  rw [decide_eq_false g1]
  simp only [r_gdFF, r_pickF]
  rw [str_at hr hlt, r_lnS, r_gtr]
  by_cases g2 : (20 : Int) < ((l.getD i ⟨#[]⟩).size : Int)
  · rw [decide_eq_true g2, r_condT]
    refine ⟨ret_bool ?_, by first | rfl | trivial⟩
    unfold fewB
    have : (l.all fun s => decide (s.size ≤ 20)) = false := by
      rw [← Bool.not_eq_true, List.all_eq_true]
      intro h
      have := of_decide_eq_true (h (l.getD i ⟨#[]⟩) (getD_mem hlt))
      omega
    rw [this, Bool.and_false]
  · rw [decide_eq_false g2, r_condF, r_add _ _ (by omega) (by omega)]
    refine ⟨⟨i + 1, by omega, by omega, by go_num, fun j hj => ?_, rfl⟩, by simp only [intOf]; omega⟩
    by_cases e : j = i
    · subst e; omega
    · exact hall j (by omega)

end Go.Proofs.YtbekeccfjmoonaaDoor
