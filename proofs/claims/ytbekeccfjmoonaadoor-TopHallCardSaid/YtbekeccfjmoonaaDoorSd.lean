/- Lifted texts, printed by program (gen.py): what each function's code asks. The ties are by the kernel. -/
import Derived.Test.YtbekeccfjmoonaaDoorBase
set_option linter.all false
namespace Go.Proofs.YtbekeccfjmoonaaDoor
open Go.Lf Go.RowKit

def S45xL1 (t11 t36 t40 t54 : Value) (next : Value → World → Prop) (w : World) : Prop :=
  Loop1 (.int .i64 0) w fun _ t55 w next_2 =>
    binQ Tryd.prog w .lss 3 false t55 t54 fun t56 =>
    condW t56 (
      semW Tryd.prog (ixS 9 t40 t55) w fun t60 w =>
      binQ Tryd.prog w .eql 5 true t60 (.int .u8 35) fun t61 =>
      Join (fun (k_2 : World → Prop) =>
        condW t61 (
          bdQ Tryd.prog 43 [(0, t55), (1, t36)] fun t64 =>
          boxW 43 (.agg #[(.int .i64 0), (.int .i64 0)]) w fun t8 w =>
          stW Tryd.prog 43 t8 t64 w fun w =>
          Drew w fun w =>
          ncQ t11 fun t66 =>
          fa1 t66 1 fun t67 =>
          ld1 w t67 fun t68 =>
          ldN 2 w t8 fun t69 =>
          ncQ t11 fun t71 =>
          fa1 t71 0 fun t72 =>
          ld1 w t72 fun t73 =>
          ln1 t73 fun t74 =>
          semW Tryd.prog (muS 53 t68 t69 t74) w fun _ w =>
          Drew w fun w =>
          ∃ X : Nat → Prop,
          takeX X w (fun w k => k t11) fun t75 =>
          takeX X w (fun w k => k t11) fun t76 =>
          takeX X w (fun w k => ncQ t76 k) fun t77 =>
          takeX X w (fun w k => fa1 t77 0 k) fun t78 =>
          takeX X w (fun w k => ld1 w t78 k) fun t79 =>
          ldN 2 w t8 fun t80 =>
          bsW Tryd.prog 39 1 [(0, t80)] w <| keepX X w fun t81 w =>
          semW Tryd.prog (apS [39, 39] 39 [t79, t81]) w <| keepX X w fun t82 w =>
          takeX X w (fun w k => ncQ t75 k) fun t83 =>
          takeX X w (fun w k => fa1 t83 0 k) fun t84 =>
          stW Tryd.prog 39 t84 t82 w fun w =>
          k_2 w
        ) (
          k_2 w
        )
      ) fun w =>
      binQ Tryd.prog w .add 3 true t55 (.int .i64 1) fun t85_2 =>
      next_2 t85_2 w
    ) (
      binQ Tryd.prog w .add 3 true t36 (.int .i64 1) fun t86 =>
      next t86 w
    )

def S45xL0 (t0 t11 t35 : Value) (R : Ending → World → Prop) (w : World) : Prop :=
  Loop1 (.int .i64 0) w fun _ t36 w next =>
    binQ Tryd.prog w .lss 3 false t36 t35 fun t37 =>
    condW t37 (
      iaS 1 t0 t36 fun t39 =>
      ld1 w t39 fun t40 =>
      lnS t40 fun t42 =>
      iaS 1 t0 (.int .i64 0) fun t44 =>
      ld1 w t44 fun t45 =>
      lnS t45 fun t46 =>
      binQ Tryd.prog w .neq 3 false t42 t46 fun t47 =>
      gd t47 false (fun k => k t40 w) w fun t49 w =>
      gd t47 false (fun k => callW Tryd.prog (.func (.func 53) #[] #[]) [t49, (.string ⟨#[35, 46]⟩)] w k) w fun t50 w =>
      gd t47 false (fun k => binQ Tryd.prog w .neq 9 true t50 (.string ⟨#[]⟩) fun v => k v w) w fun t51 w =>
      pickQ t47 (.bool true) t51 fun t52 =>
      condW t52 (
        R (.returned (.tuple #[(.pointer none), (.bool false)])) w
      ) (
        lnS t40 fun t54 =>
        S45xL1 t11 t36 t40 t54 next w
      )
    ) (
      Drew w fun w =>
      ncQ t11 fun t89 =>
      fa1 t89 0 fun t90 =>
      ld1 w t90 fun t91 =>
      ln1 t91 fun t92 =>
      binQ Tryd.prog w .gtr 3 true t92 (.int .i64 0) fun t93 =>
      R (.returned (.tuple #[t11, t93])) w
    )

def S45x (t0 : Value) (w : World) (R : Ending → World → Prop) : Prop :=
  mmW w fun t9 w =>
  bdQ Tryd.prog 55 [(1, t9)] fun t10 =>
  boxW 55 t10 w fun t11 w =>
  ln1 t0 fun t13 =>
  binQ Tryd.prog w .lss 3 true t13 (.int .i64 1) fun t14 =>
  gd t14 false (fun k => k t0 w) w fun t16 w =>
  gd t14 false (fun k => ln1 t16 fun v => k v w) w fun t17 w =>
  gd t14 false (fun k => binQ Tryd.prog w .gtr 3 true t17 (.int .i64 4) fun v => k v w) w fun t18 w =>
  pickQ t14 (.bool true) t18 fun t19 =>
  gd t19 false (fun k => k t0 w) w fun t21 w =>
  gd t19 false (fun k => iaS 1 t21 (.int .i64 0) fun v => k v w) w fun t22 w =>
  gd t19 false (fun k => ld1 w t22 fun v => k v w) w fun t23 w =>
  gd t19 false (fun k => lnS t23 fun v => k v w) w fun t24 w =>
  gd t19 false (fun k => binQ Tryd.prog w .lss 3 true t24 (.int .i64 1) fun v => k v w) w fun t25 w =>
  pickQ t19 (.bool true) t25 fun t26 =>
  gd t26 false (fun k => k t0 w) w fun t28 w =>
  gd t26 false (fun k => iaS 1 t28 (.int .i64 0) fun v => k v w) w fun t29 w =>
  gd t26 false (fun k => ld1 w t29 fun v => k v w) w fun t30 w =>
  gd t26 false (fun k => lnS t30 fun v => k v w) w fun t31 w =>
  gd t26 false (fun k => binQ Tryd.prog w .gtr 3 true t31 (.int .i64 4) fun v => k v w) w fun t32 w =>
  pickQ t26 (.bool true) t32 fun t33 =>
  condW t33 (
    R (.returned (.tuple #[(.pointer none), (.bool false)])) w
  ) (
    ln1 t0 fun t35 =>
    S45xL0 t0 t11 t35 R w
  )

def A45x : Ann where
  live := fun
    | 0 => [36]
    | 2 => [55]
    | _ => []
  wr := fun
    | 0 => fun i => (Nat.ble 2 i && Nat.ble i 3) || (Nat.ble 5 i && Nat.ble i 8) || (Nat.ble 36 i && Nat.ble i 86)
    | 2 => fun i => (Nat.ble 7 i && Nat.ble i 8) || (Nat.ble 55 i && Nat.ble i 85)
    | _ => fun _ => false
  sched := fun
    | 14 => (.take 0 (.take 1 (.take 2 (.take 3 (.take 4 (.take 5 (.take 6 (.take 7 (.take 8 (.take 9 (.bar 10 .done)))))))))))
    | 15 => (.cls (.take 0 (.take 1 (.take 2 (.take 3 (.take 4 (.take 5 (.eff 6 (.eff 7 (.take 8 (.take 9 (.bar 10 .done))))))))))))
    | 18 => (.take 0 (.take 1 (.take 2 (.take 3 (.take 4 (.take 5 (.take 6 (.take 7 (.take 8 .done)))))))))
    | _ => .done

set_option maxRecDepth 100000 in
theorem ok45x : (codeOk Tryd.f45.ntmps A45x (Tryd.f45.body.getD .skip) 0 && Nat.ble 1 Tryd.f45.ntmps) = true := by kernel_rfl
set_option maxRecDepth 100000 in
theorem lift45x {t0 : Value} {w : World} {R : Ending → World → Prop} (h : S45x t0 w R) : Calls Tryd.prog 45 #[t0] w R :=
  calls_of_cw (fn := Tryd.f45) (c := Tryd.f45.body.getD .skip) A45x mixes Tryd.func45 (by kernel_rfl) ok45x
    ((by kernel_rfl : (S45x t0 w R) = cw Tryd.prog A45x (Tryd.f45.body.getD .skip) 0 (bodyQ Tryd.prog Tryd.f45 R) (frOf #[t0]) w).mp h)

end Go.Proofs.YtbekeccfjmoonaaDoor
