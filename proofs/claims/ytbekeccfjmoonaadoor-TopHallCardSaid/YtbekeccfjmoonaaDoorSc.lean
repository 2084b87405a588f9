/- Lifted texts, printed by program (gen.py): what each function's code asks. The ties are by the kernel. -/
import Derived.Test.YtbekeccfjmoonaaDoorBase
set_option linter.all false
namespace Go.Proofs.YtbekeccfjmoonaaDoor
open Go.Lf Go.RowKit

def S68L0 (t0 t7 : Value) (R : Ending → World → Prop) (w : World) : Prop :=
  Loop1 (.int .i64 0) w fun _ t8 w next =>
    binQ Tryd.prog w .lss 3 false t8 t7 fun t9 =>
    condW t9 (
      iaS 1 t0 t8 fun t10 =>
      ld1 w t10 fun t11 =>
      binQ Tryd.prog w .neq 3 false t11 (.int .i64 0) fun t14 =>
      condW t14 (
        R (.returned t11) w
      ) (
        binQ Tryd.prog w .add 3 true t8 (.int .i64 1) fun t16 =>
        next t16 w
      )
    ) (
      R (.returned (.int .i64 0)) w
    )



def S68 (t0 : Value) (w : World) (R : Ending → World → Prop) : Prop :=
  ln1 t0 fun t7 =>
  S68L0 t0 t7 R w

def A68 : Ann where
  live := fun
    | 0 => [8]
    | _ => []
  wr := fun
    | 0 => fun i => Nat.beq i 2 || Nat.beq i 5 || (Nat.ble 8 i && Nat.ble i 16)
    | _ => fun _ => false
  sched := fun _ => .done

set_option maxRecDepth 100000 in
theorem ok68 : (codeOk Tryd.f68.ntmps A68 (Tryd.f68.body.getD .skip) 0 && Nat.ble 1 Tryd.f68.ntmps) = true := by kernel_rfl
set_option maxRecDepth 100000 in
theorem lift68 {t0 : Value} {w : World} {R : Ending → World → Prop} (h : S68 t0 w R) : Calls Tryd.prog 68 #[t0] w R :=
  calls_of_cw (fn := Tryd.f68) (c := Tryd.f68.body.getD .skip) A68 mixes Tryd.func68 (by kernel_rfl) ok68
    ((by kernel_rfl : (S68 t0 w R) = cw Tryd.prog A68 (Tryd.f68.body.getD .skip) 0 (bodyQ Tryd.prog Tryd.f68 R) (frOf #[t0]) w).mp h)

def S69 (t0 t1 : Value) (w : World) (R : Ending → World → Prop) : Prop :=
  callW Tryd.prog (.func (.func 93) #[] #[]) [t0] w fun t8 w =>
  callW Tryd.prog (.func (.func 93) #[] #[]) [t1] w fun t10 w =>
  condW t8 (
    condW t10 (
      R (.returned (.int .i64 0)) w
    ) (
      R (.returned (.int .i64 (-1))) w
    )
  ) (
    condW t10 (
      R (.returned (.int .i64 1)) w
    ) (
      binQ Tryd.prog w .lss 3 false t0 t1 fun t16 =>
      condW t16 (
        R (.returned (.int .i64 (-1))) w
      ) (
        binQ Tryd.prog w .gtr 3 false t0 t1 fun t19 =>
        condW t19 (
          R (.returned (.int .i64 1)) w
        ) (
          R (.returned (.int .i64 0)) w
        )
      )
    )
  )

def A69 : Ann where
  live := fun _ => []
  wr := fun _ _ => false
  sched := fun _ => .done

set_option maxRecDepth 100000 in
theorem ok69 : (codeOk Tryd.f69.ntmps A69 (Tryd.f69.body.getD .skip) 0 && Nat.ble 2 Tryd.f69.ntmps) = true := by kernel_rfl
set_option maxRecDepth 100000 in
theorem lift69 {t0 t1 : Value} {w : World} {R : Ending → World → Prop} (h : S69 t0 t1 w R) : Calls Tryd.prog 69 #[t0, t1] w R :=
  calls_of_cw (fn := Tryd.f69) (c := Tryd.f69.body.getD .skip) A69 mixes Tryd.func69 (by kernel_rfl) ok69
    ((by kernel_rfl : (S69 t0 t1 w R) = cw Tryd.prog A69 (Tryd.f69.body.getD .skip) 0 (bodyQ Tryd.prog Tryd.f69 R) (frOf #[t0, t1]) w).mp h)

def S93 (t0 : Value) (w : World) (R : Ending → World → Prop) : Prop :=
  binQ Tryd.prog w .neq 3 false t0 t0 fun t5 =>
  R (.returned t5) w

def A93 : Ann where
  live := fun _ => []
  wr := fun _ _ => false
  sched := fun _ => .done

set_option maxRecDepth 100000 in
theorem ok93 : (codeOk Tryd.f93.ntmps A93 (Tryd.f93.body.getD .skip) 0 && Nat.ble 1 Tryd.f93.ntmps) = true := by kernel_rfl
set_option maxRecDepth 100000 in
theorem lift93 {t0 : Value} {w : World} {R : Ending → World → Prop} (h : S93 t0 w R) : Calls Tryd.prog 93 #[t0] w R :=
  calls_of_cw (fn := Tryd.f93) (c := Tryd.f93.body.getD .skip) A93 mixes Tryd.func93 (by kernel_rfl) ok93
    ((by kernel_rfl : (S93 t0 w R) = cw Tryd.prog A93 (Tryd.f93.body.getD .skip) 0 (bodyQ Tryd.prog Tryd.f93 R) (frOf #[t0]) w).mp h)

theorem fok68 : fnOk Tryd.prog 68 = true := by kernel_rfl
theorem fok69 : fnOk Tryd.prog 69 = true := by kernel_rfl
theorem fok93 : fnOk Tryd.prog 93 = true := by kernel_rfl
end Go.Proofs.YtbekeccfjmoonaaDoor
