/- Lifted texts, printed by program (gen.py): what each function's code asks. The ties are by the kernel. -/
import Derived.Test.YtbekeccfjmoonaaDoorBase
set_option linter.all false
namespace Go.Proofs.YtbekeccfjmoonaaDoor
open Go.Lf Go.RowKit

def S7 (t0 t1 : Value) (w : World) (R : Ending → World → Prop) : Prop :=
  callW Tryd.prog (.func (.func 17) #[] #[]) [t0, t1] w fun t13 w =>
  exQ t13 0 fun t14 =>
  exQ t13 1 fun t15 =>
  boxW 46 (.pointer none) w fun t6 w =>
  stW Tryd.prog 46 t6 t14 w fun w =>
  binQ Tryd.prog w .neq 25 true t15 (.int .i64 0) fun t17 =>
  condW t17 (
    R (.returned (.tuple #[(.int .i64 0), t15])) w
  ) (
    mmW w fun t19 w =>
    ld1 w t6 fun t20 =>
    ncQ t20 fun t21 =>
    fa1 t21 0 fun t22 =>
    ld1 w t22 fun t23 =>
    ncQ t23 fun t24 =>
    fa1 t24 0 fun t25 =>
    ld1 w t25 fun t26 =>
    ln1 t26 fun t27 =>
    binQ Tryd.prog w .shl 3 true (.int .i64 1) t27 fun t28 =>
    binQ Tryd.prog w .sub 3 true t28 (.int .i64 1) fun t29 =>
    semW Tryd.prog (muS 56 t19 t29 (.int .i64 1)) w fun _ w =>
    boxW 56 (.map none) w fun t8 w =>
    stW Tryd.prog 56 t8 t19 w fun w =>
    boxW 57 .nilFunc w fun t9 w =>
    stW Tryd.prog 57 t9 (.func (.func 18) #[] #[t8, t6, t9]) w fun w =>
    ld1 w t9 fun t32 =>
    callW Tryd.prog t32 [(.int .i64 0)] w fun t33 w =>
    R (.returned (.tuple #[t33, (.int .i64 0)])) w
  )

def A7 : Ann where
  live := fun _ => []
  wr := fun _ _ => false
  sched := fun _ => .done

set_option maxRecDepth 100000 in
theorem ok7 : (codeOk Tryd.f7.ntmps A7 (Tryd.f7.body.getD .skip) 0 && Nat.ble 2 Tryd.f7.ntmps) = true := by kernel_rfl
set_option maxRecDepth 100000 in
theorem lift7 {t0 t1 : Value} {w : World} {R : Ending → World → Prop} (h : S7 t0 t1 w R) : Calls Tryd.prog 7 #[t0, t1] w R :=
  calls_of_cw (fn := Tryd.f7) (c := Tryd.f7.body.getD .skip) A7 mixes Tryd.func7 (by kernel_rfl) ok7
    ((by kernel_rfl : (S7 t0 t1 w R) = cw Tryd.prog A7 (Tryd.f7.body.getD .skip) 0 (bodyQ Tryd.prog Tryd.f7 R) (frOf #[t0, t1]) w).mp h)

def S18L1 (t0 t1 t3 t8 t30 t31 : Value) (R : Ending → World → Prop) (w : World) : Prop :=
  Loop2 (.int .i64 0) (.int .i64 0) w fun _ t9 t32 w next_2 =>
    binQ Tryd.prog w .lss 3 false t32 t31 fun t33 =>
    condW t33 (
      iaS 1 t30 t32 fun t34 =>
      ld1 w t34 fun t35 =>
      callW Tryd.prog (.func (.func 19) #[] #[]) [t35, t8] w fun t38 w =>
      gd t38 true (fun k => k t0 w) w fun t40 w =>
      gd t38 true (fun k => k t35 w) w fun t41 w =>
      gd t38 true (fun k => callW Tryd.prog (.func (.func 20) #[] #[]) [t41] w k) w fun t42 w =>
      gd t38 true (fun k => binQ Tryd.prog w .and 3 false t40 t42 fun v => k v w) w fun t43 w =>
      gd t38 true (fun k => binQ Tryd.prog w .eql 3 true t43 (.int .i64 0) fun v => k v w) w fun t44 w =>
      pickQ t38 t44 (.bool false) fun t45 =>
      Join (fun (k_2 : Value → World → Prop) =>
        condW t45 (
          Drew w fun w =>
          ∃ X : Nat → Prop,
          takeX X w (fun w k => k t9) fun t46 =>
          takeX X w (fun w k => ld1 w t3 k) fun t47 =>
          takeX X w (fun w k => k t0) fun t48 =>
          callW Tryd.prog (.func (.func 20) #[] #[]) [t35] w <| keepX X w fun t50 w =>
          takeX X w (fun w k => binQ Tryd.prog w .or 3 false t48 t50 k) fun t51 =>
          callW Tryd.prog t47 [t51] w <| keepX X w fun t52 w =>
          takeX X w (fun w k => binQ Tryd.prog w .add 3 false t46 t52 k) fun t53 =>
          takeX X w (fun w k => k t53) fun t9_3 =>
          k_2 t9_3 w
        ) (
          k_2 t9 w
        )
      ) fun t9_2 w =>
      binQ Tryd.prog w .add 3 true t32 (.int .i64 1) fun t54_2 =>
      next_2 t9_2 t54_2 w
    ) (
      ld1 w t1 fun t55 =>
      semW Tryd.prog (muS 56 t55 t0 t9) w fun _ w =>
      R (.returned t9) w
    )

def S18L0 (t0 t1 t2 t3 : Value) (R : Ending → World → Prop) (w : World) : Prop :=
  Loop1 (.int .i64 0) w fun _ t8 w next =>
    binQ Tryd.prog w .shl 3 true (.int .i64 1) t8 fun t22 =>
    binQ Tryd.prog w .and 3 false t0 t22 fun t23 =>
    binQ Tryd.prog w .neq 3 true t23 (.int .i64 0) fun t24 =>
    condW t24 (
      binQ Tryd.prog w .add 3 true t8 (.int .i64 1) fun t26 =>
      next t26 w
    ) (
      ld1 w t2 fun t27 =>
      ncQ t27 fun t28 =>
      fa1 t28 3 fun t29 =>
      ld1 w t29 fun t30 =>
      ln1 t30 fun t31 =>
      S18L1 t0 t1 t3 t8 t30 t31 R w
    )

def S18 (t0 t1 t2 t3 : Value) (w : World) (R : Ending → World → Prop) : Prop :=
  ld1 w t1 fun t13 =>
  semW Tryd.prog (lkS 56 t13 t0 true) w fun t15 w =>
  exQ t15 0 fun t16 =>
  exQ t15 1 fun t17 =>
  condW t17 (
    R (.returned t16) w
  ) (
    S18L0 t0 t1 t2 t3 R w
  )

def A18 : Ann where
  live := fun
    | 0 => [8]
    | 2 => [9, 32]
    | _ => []
  wr := fun
    | 0 => fun i => Nat.beq i 8 || (Nat.ble 20 i && Nat.ble i 26)
    | 2 => fun i => Nat.beq i 9 || Nat.beq i 11 || (Nat.ble 32 i && Nat.ble i 54)
    | _ => fun _ => false
  sched := fun
    | 12 => (.cls (.take 0 (.take 1 (.take 2 (.take 3 (.eff 4 (.take 5 (.eff 6 (.take 7 (.take 8 .done))))))))))
    | _ => .done

set_option maxRecDepth 100000 in
theorem ok18 : (codeOk Tryd.f18.ntmps A18 (Tryd.f18.body.getD .skip) 0 && Nat.ble 4 Tryd.f18.ntmps) = true := by kernel_rfl
set_option maxRecDepth 100000 in
theorem lift18 {t0 t1 t2 t3 : Value} {w : World} {R : Ending → World → Prop} (h : S18 t0 t1 t2 t3 w R) : Calls Tryd.prog 18 #[t0, t1, t2, t3] w R :=
  calls_of_cw (fn := Tryd.f18) (c := Tryd.f18.body.getD .skip) A18 mixes Tryd.func18 (by kernel_rfl) ok18
    ((by kernel_rfl : (S18 t0 t1 t2 t3 w R) = cw Tryd.prog A18 (Tryd.f18.body.getD .skip) 0 (bodyQ Tryd.prog Tryd.f18 R) (frOf #[t0, t1, t2, t3]) w).mp h)

theorem fok7 : fnOk Tryd.prog 7 = true := by kernel_rfl
theorem fok18 : fnOk Tryd.prog 18 = true := by kernel_rfl
end Go.Proofs.YtbekeccfjmoonaaDoor
