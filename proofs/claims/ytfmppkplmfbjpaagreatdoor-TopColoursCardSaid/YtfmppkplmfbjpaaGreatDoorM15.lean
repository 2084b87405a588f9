/- Texts of my own, merged by program: Se Pa. -/
import Derived.Test.YtfmppkplmfbjpaaGreatDoorM03
import Init
set_option linter.all false
/- Lifted texts, printed by program (gen.py): what each function's code asks. The ties are by the kernel. -/
namespace Go.Proofs.YtfmppkplmfbjpaaGreatDoor
open Go.Lf Go.RowKit

def S7 (t0 : Value) (w : World) (R : Ending → World → Prop) : Prop :=
  boxW 36 (.agg #[(.int .i64 0), (.int .i64 0), (.int .i64 0)]) w fun t2 w =>
  callW Tryz.prog (.func (.func 16) #[] #[]) [t0] w fun t8 w =>
  exQ t8 0 fun t9 =>
  exQ t8 1 fun t10 =>
  unQ .not t10 fun t12 =>
  condW t12 (
    bdQ Tryz.prog 36 [] fun t13 =>
    stW Tryz.prog 36 t2 t13 w fun w =>
    ldN 3 w t2 fun r =>
    R (.returned (.tuple #[r, (.int .i64 2)])) w
  ) (
    callW Tryz.prog (.func (.func 17) #[] #[]) [t9] w fun t15 w =>
    stW Tryz.prog 36 t2 t15 w fun w =>
    ldN 3 w t2 fun r_2 =>
    R (.returned (.tuple #[r_2, (.int .i64 0)])) w
  )

def A7 : Ann where
  live := fun _ => []
  wr := fun _ _ => false
  sched := fun _ => .done

set_option maxRecDepth 100000 in
theorem ok7 : (codeOk Tryz.f7.ntmps A7 (Tryz.f7.body.getD .skip) 0 && Nat.ble 1 Tryz.f7.ntmps) = true := by kernel_rfl
set_option maxRecDepth 100000 in
theorem lift7 {t0 : Value} {w : World} {R : Ending → World → Prop} (h : S7 t0 w R) : Calls Tryz.prog 7 #[t0] w R :=
  calls_of_cw (fn := Tryz.f7) (c := Tryz.f7.body.getD .skip) A7 mixes Tryz.func7 (by kernel_rfl) ok7
    ((by kernel_rfl : (S7 t0 w R) = cw Tryz.prog A7 (Tryz.f7.body.getD .skip) 0 (bodyQ Tryz.prog Tryz.f7 R) (frOf #[t0]) w).mp h)

def S10 (t0 : Value) (w : World) (R : Ending → World → Prop) : Prop :=
  callW Tryz.prog (.func (.func 16) #[] #[]) [t0] w fun t8 w =>
  exQ t8 0 fun t9 =>
  exQ t8 1 fun t10 =>
  unQ .not t10 fun t12 =>
  condW t12 (
    R (.returned (.tuple #[(.string ⟨#[]⟩), (.int .i64 2)])) w
  ) (
    callW Tryz.prog (.func (.func 18) #[] #[]) [t9] w fun t14 w =>
    callW Tryz.prog (.func (.func 27) #[] #[]) [t14] w fun t15 w =>
    R (.returned (.tuple #[t15, (.int .i64 0)])) w
  )

def A10 : Ann where
  live := fun _ => []
  wr := fun _ _ => false
  sched := fun _ => .done

set_option maxRecDepth 100000 in
theorem ok10 : (codeOk Tryz.f10.ntmps A10 (Tryz.f10.body.getD .skip) 0 && Nat.ble 1 Tryz.f10.ntmps) = true := by kernel_rfl
set_option maxRecDepth 100000 in
theorem lift10 {t0 : Value} {w : World} {R : Ending → World → Prop} (h : S10 t0 w R) : Calls Tryz.prog 10 #[t0] w R :=
  calls_of_cw (fn := Tryz.f10) (c := Tryz.f10.body.getD .skip) A10 mixes Tryz.func10 (by kernel_rfl) ok10
    ((by kernel_rfl : (S10 t0 w R) = cw Tryz.prog A10 (Tryz.f10.body.getD .skip) 0 (bodyQ Tryz.prog Tryz.f10 R) (frOf #[t0]) w).mp h)

def S16 (t0 : Value) (w : World) (R : Ending → World → Prop) : Prop :=
  boxW 32 t0 w fun t1 w =>
  ld1 w t1 fun t4 =>
  ln1 t4 fun t5 =>
  binQ Tryz.prog w .lss 3 true t5 (.int .i64 1) fun t6 =>
  gd t6 false (fun k => ld1 w t1 fun v => k v w) w fun t8 w =>
  gd t6 false (fun k => ln1 t8 fun v => k v w) w fun t9 w =>
  gd t6 false (fun k => binQ Tryz.prog w .gtr 3 true t9 (.int .i64 6) fun v => k v w) w fun t10 w =>
  pickQ t6 (.bool true) t10 fun t11 =>
  gd t11 false (fun k => ld1 w t1 fun v => k v w) w fun t13 w =>
  gd t11 false (fun k => iaS 1 t13 (.int .i64 0) fun v => k v w) w fun t14 w =>
  gd t11 false (fun k => ld1 w t14 fun v => k v w) w fun t15 w =>
  gd t11 false (fun k => lnS t15 fun v => k v w) w fun t16 w =>
  gd t11 false (fun k => binQ Tryz.prog w .lss 3 true t16 (.int .i64 1) fun v => k v w) w fun t17 w =>
  pickQ t11 (.bool true) t17 fun t18 =>
  gd t18 false (fun k => ld1 w t1 fun v => k v w) w fun t20 w =>
  gd t18 false (fun k => iaS 1 t20 (.int .i64 0) fun v => k v w) w fun t21 w =>
  gd t18 false (fun k => ld1 w t21 fun v => k v w) w fun t22 w =>
  gd t18 false (fun k => lnS t22 fun v => k v w) w fun t23 w =>
  gd t18 false (fun k => binQ Tryz.prog w .gtr 3 true t23 (.int .i64 6) fun v => k v w) w fun t24 w =>
  pickQ t18 (.bool true) t24 fun t25 =>
  condW t25 (
    R (.returned (.tuple #[(.pointer none), (.bool false)])) w
  ) (
    ld1 w t1 fun t26 =>
    callW Tryz.prog (.func (.func 37) #[] #[]) [t26, (.func (.func 38) #[] #[t1])] w fun t28 w =>
    condW t28 (
      R (.returned (.tuple #[(.pointer none), (.bool false)])) w
    ) (
      Drew w fun w =>
      ld1 w t1 fun t29 =>
      iaS 1 t29 (.int .i64 0) fun t30 =>
      ld1 w t30 fun t31 =>
      lnS t31 fun t32 =>
      ld1 w t1 fun t33 =>
      ln1 t33 fun t34 =>
      ld1 w t1 fun t35 =>
      bdQ Tryz.prog 63 [(0, t32), (1, t34), (2, t35)] fun t36 =>
      boxW 63 t36 w fun t37 w =>
      R (.returned (.tuple #[t37, (.bool true)])) w
    )
  )

def A16 : Ann where
  live := fun _ => []
  wr := fun _ _ => false
  sched := fun
    | 5 => (.take 0 (.take 1 (.take 2 (.take 3 (.take 4 (.take 5 (.take 6 (.take 7 (.bar 8 (.take 9 (.take 10 .done)))))))))))
    | _ => .done

set_option maxRecDepth 100000 in
theorem ok16 : (codeOk Tryz.f16.ntmps A16 (Tryz.f16.body.getD .skip) 0 && Nat.ble 1 Tryz.f16.ntmps) = true := by kernel_rfl
set_option maxRecDepth 100000 in
theorem lift16 {t0 : Value} {w : World} {R : Ending → World → Prop} (h : S16 t0 w R) : Calls Tryz.prog 16 #[t0] w R :=
  calls_of_cw (fn := Tryz.f16) (c := Tryz.f16.body.getD .skip) A16 mixes Tryz.func16 (by kernel_rfl) ok16
    ((by kernel_rfl : (S16 t0 w R) = cw Tryz.prog A16 (Tryz.f16.body.getD .skip) 0 (bodyQ Tryz.prog Tryz.f16 R) (frOf #[t0]) w).mp h)

def S17L2 (t1 t2 t3 t6 t41 : Value) (next_2 : Value → World → Prop) (R : Ending → World → Prop) (w : World) : Prop :=
  Loop1 (.int .i64 0) w fun _ t42 w next_3 =>
    binQ Tryz.prog w .lss 3 false t42 t41 fun t43 =>
    condW t43 (
      callW Tryz.prog (.func (.func 40) #[] #[t1]) [t6, t42] w fun t48 w =>
      condW t48 (
        fa1 t3 0 fun t51 =>
        stW Tryz.prog 3 t51 t6 w fun w =>
        fa1 t3 1 fun t52 =>
        stW Tryz.prog 3 t52 t42 w fun w =>
        ldN 3 w t3 fun t53 =>
        stW Tryz.prog 36 t2 t53 w fun w =>
        ldN 3 w t2 fun r =>
        R (.returned r) w
      ) (
        binQ Tryz.prog w .add 3 true t42 (.int .i64 1) fun t54 =>
        next_3 t54 w
      )
    ) (
      binQ Tryz.prog w .add 3 true t6 (.int .i64 1) fun t39 =>
      next_2 t39 w
    )

def S17L1 (t1 t2 t3 : Value) (R : Ending → World → Prop) (w : World) : Prop :=
  Loop1 (.int .i64 1) w fun _ t6 w next_2 =>
    ld1 w t1 fun t33 =>
    ncQ t33 fun t34 =>
    fa1 t34 0 fun t35 =>
    ld1 w t35 fun t36 =>
    binQ Tryz.prog w .lss 3 false t6 t36 fun t37 =>
    condW t37 (
      fa1 t3 2 fun t40 =>
      ld1 w t40 fun t41 =>
      S17L2 t1 t2 t3 t6 t41 next_2 R w
    ) (
      ldN 3 w t3 fun t55 =>
      stW Tryz.prog 36 t2 t55 w fun w =>
      ldN 3 w t2 fun r_2 =>
      R (.returned r_2) w
    )

def S17L0 (t1 t2 t3 t22 : Value) (R : Ending → World → Prop) (w : World) : Prop :=
  Loop1 t22 w fun _ t5 w next =>
    binQ Tryz.prog w .gtr 3 true t5 (.int .i64 0) fun t24 =>
    condW t24 (
      callW Tryz.prog (.func (.func 40) #[] #[t1]) [(.int .i64 0), t5] w fun t29 w =>
      Join (fun (k_2 : World → Prop) =>
        condW t29 (
          fa1 t3 2 fun t31 =>
          stW Tryz.prog 3 t31 t5 w fun w =>
          k_2 w
        ) (
          k_2 w
        )
      ) fun w =>
      binQ Tryz.prog w .sub 3 true t5 (.int .i64 1) fun t26_2 =>
      next t26_2 w
    ) (
      S17L1 t1 t2 t3 R w
    )



def S17 (t0 : Value) (w : World) (R : Ending → World → Prop) : Prop :=
  boxW 51 t0 w fun t1 w =>
  boxW 36 (.agg #[(.int .i64 0), (.int .i64 0), (.int .i64 0)]) w fun t2 w =>
  Drew w fun w =>
  ld1 w t1 fun t8 =>
  ncQ t8 fun t9 =>
  fa1 t9 0 fun t10 =>
  ld1 w t10 fun t11 =>
  ld1 w t1 fun t12 =>
  ncQ t12 fun t13 =>
  fa1 t13 1 fun t14 =>
  ld1 w t14 fun t15 =>
  bdQ Tryz.prog 36 [(0, t11), (2, t15)] fun t16 =>
  boxW 36 (.agg #[(.int .i64 0), (.int .i64 0), (.int .i64 0)]) w <| keepB w fun t3 w =>
  stW Tryz.prog 36 t3 t16 w fun w =>
  ld1 w t1 fun t18 =>
  ncQ t18 fun t19 =>
  fa1 t19 1 fun t20 =>
  ld1 w t20 fun t21 =>
  binQ Tryz.prog w .sub 3 true t21 (.int .i64 1) fun t22 =>
  S17L0 t1 t2 t3 t22 R w

def A17 : Ann where
  live := fun
    | 0 => [5]
    | 2 => [6]
    | 4 => [42]
    | _ => []
  wr := fun
    | 0 => fun i => Nat.beq i 5 || (Nat.ble 23 i && Nat.ble i 31)
    | 2 => fun i => (Nat.ble 6 i && Nat.ble i 7) || (Nat.ble 32 i && Nat.ble i 54)
    | 4 => fun i => Nat.beq i 7 || (Nat.ble 42 i && Nat.ble i 54)
    | _ => fun _ => false
  sched := fun
    | 1 => (.take 0 (.take 1 (.take 2 (.take 3 (.take 4 (.take 5 (.take 6 (.take 7 (.take 8 (.eff 9 (.bar 10 .done)))))))))))
    | _ => .done

set_option maxRecDepth 100000 in
theorem ok17 : (codeOk Tryz.f17.ntmps A17 (Tryz.f17.body.getD .skip) 0 && Nat.ble 1 Tryz.f17.ntmps) = true := by kernel_rfl
set_option maxRecDepth 100000 in
theorem lift17 {t0 : Value} {w : World} {R : Ending → World → Prop} (h : S17 t0 w R) : Calls Tryz.prog 17 #[t0] w R :=
  calls_of_cw (fn := Tryz.f17) (c := Tryz.f17.body.getD .skip) A17 mixes Tryz.func17 (by kernel_rfl) ok17
    ((by kernel_rfl : (S17 t0 w R) = cw Tryz.prog A17 (Tryz.f17.body.getD .skip) 0 (bodyQ Tryz.prog Tryz.f17 R) (frOf #[t0]) w).mp h)

def S18L2 (t0 t5 t12 t14 t23 t30 : Value) (next_2 : Value → World → Prop) (w : World) : Prop :=
  Loop1 (.int .i64 0) w fun _ t31 w next_3 =>
    binQ Tryz.prog w .lss 3 false t31 t30 fun t32 =>
    condW t32 (
      ldN 6 w t5 fun t34 =>
      boxW 71 (.agg #[(.int .i64 0), (.int .i64 0), (.int .i64 0), (.int .i64 0), (.int .i64 0), (.int .i64 0)]) w fun t8 w =>
      stW Tryz.prog 71 t8 t34 w fun w =>
      fa1 t8 4 fun t37 =>
      stW Tryz.prog 3 t37 t23 w fun w =>
      fa1 t8 5 fun t38 =>
      stW Tryz.prog 3 t38 t31 w fun w =>
      ldN 6 w t8 fun t40 =>
      callW Tryz.prog (.func (.func 41) #[] #[]) [t0, t40] w fun t41 w =>
      Join (fun (k_2 : World → Prop) =>
        condW t41 (
          Drew w fun w =>
          ∃ X : Nat → Prop,
          takeX X w (fun w k => k t12) fun t42 =>
          takeX X w (fun w k => k t12) fun t43 =>
          takeX X w (fun w k => ncQ t43 k) fun t44 =>
          takeX X w (fun w k => fa1 t44 3 k) fun t45 =>
          takeX X w (fun w k => ld1 w t45 k) fun t46 =>
          ldN 6 w t8 fun t47 =>
          bsW Tryz.prog 64 1 [(0, t47)] w <| keepX X w fun t48 w =>
          semW Tryz.prog (apS [64, 64] 64 [t46, t48]) w <| keepX X w fun t49 w =>
          takeX X w (fun w k => ncQ t42 k) fun t50 =>
          takeX X w (fun w k => fa1 t50 3 k) fun t51 =>
          stW Tryz.prog 64 t51 t49 w fun w =>
          ncQ t12 fun t56 =>
          fa1 t56 4 fun t57 =>
          iaA 8 36 t57 t14 fun t58 =>
          iaA 6 6 t58 t23 fun t59 =>
          iaA 6 1 t59 t31 fun t60 =>
          stW Tryz.prog 4 t60 (.bool true) w fun w =>
          k_2 w
        ) (
          k_2 w
        )
      ) fun w =>
      binQ Tryz.prog w .add 3 true t31 (.int .i64 1) fun t61_2 =>
      next_3 t61_2 w
    ) (
      binQ Tryz.prog w .add 3 true t23 (.int .i64 1) fun t62 =>
      next_2 t62 w
    )

def S18L1 (t0 t5 t12 t14 t22 : Value) (next : Value → World → Prop) (w : World) : Prop :=
  Loop1 (.int .i64 0) w fun _ t23 w next_2 =>
    binQ Tryz.prog w .lss 3 false t23 t22 fun t24 =>
    condW t24 (
      ncQ t12 fun t27 =>
      fa1 t27 0 fun t28 =>
      fa1 t28 2 fun t29 =>
      ld1 w t29 fun t30 =>
      S18L2 t0 t5 t12 t14 t23 t30 next_2 w
    ) (
      binQ Tryz.prog w .add 3 true t14 (.int .i64 1) fun t63 =>
      next t63 w
    )

def S18L0 (t0 t12 t13 : Value) (R : Ending → World → Prop) (w : World) : Prop :=
  Loop1 (.int .i64 0) w fun _ t14 w next =>
    binQ Tryz.prog w .lss 3 true t14 (.int .i64 8) fun t15 =>
    condW t15 (
      semW Tryz.prog (ixS 98 t13 t14) w fun t17 w =>
      boxW 71 (.agg #[(.int .i64 0), (.int .i64 0), (.int .i64 0), (.int .i64 0), (.int .i64 0), (.int .i64 0)]) w fun t5 w =>
      stW Tryz.prog 71 t5 t17 w fun w =>
      ncQ t12 fun t19 =>
      fa1 t19 0 fun t20 =>
      fa1 t20 0 fun t21 =>
      ld1 w t21 fun t22 =>
      S18L1 t0 t5 t12 t14 t22 next w
    ) (
      R (.returned t12) w
    )



def S18 (t0 : Value) (w : World) (R : Ending → World → Prop) : Prop :=
  callW Tryz.prog (.func (.func 17) #[] #[]) [t0] w fun t10 w =>
  bdQ Tryz.prog 69 [(0, t10)] fun t11 =>
  boxW 69 t11 w fun t12 w =>
  ldN 48 w (.pointer (some ⟨0, 0, none⟩)) fun t13 =>
  S18L0 t0 t12 t13 R w

def A18 : Ann where
  live := fun
    | 0 => [14]
    | 2 => [23]
    | 4 => [31]
    | _ => []
  wr := fun
    | 0 => fun i => (Nat.ble 4 i && Nat.ble i 8) || (Nat.ble 14 i && Nat.ble i 63)
    | 2 => fun i => (Nat.ble 6 i && Nat.ble i 8) || (Nat.ble 23 i && Nat.ble i 62)
    | 4 => fun i => (Nat.ble 7 i && Nat.ble i 8) || (Nat.ble 31 i && Nat.ble i 61)
    | _ => fun _ => false
  sched := fun
    | 14 => (.cls (.take 0 (.take 1 (.take 2 (.take 3 (.take 4 (.take 5 (.eff 6 (.eff 7 (.take 8 (.take 9 (.bar 10 .done))))))))))))
    | _ => .done

set_option maxRecDepth 100000 in
theorem ok18 : (codeOk Tryz.f18.ntmps A18 (Tryz.f18.body.getD .skip) 0 && Nat.ble 1 Tryz.f18.ntmps) = true := by kernel_rfl
set_option maxRecDepth 100000 in
theorem lift18 {t0 : Value} {w : World} {R : Ending → World → Prop} (h : S18 t0 w R) : Calls Tryz.prog 18 #[t0] w R :=
  calls_of_cw (fn := Tryz.f18) (c := Tryz.f18.body.getD .skip) A18 mixes Tryz.func18 (by kernel_rfl) ok18
    ((by kernel_rfl : (S18 t0 w R) = cw Tryz.prog A18 (Tryz.f18.body.getD .skip) 0 (bodyQ Tryz.prog Tryz.f18 R) (frOf #[t0]) w).mp h)

def S19L1 (t4 t12 t19 : Value) (next : Value → Value → World → Prop) (w : World) : Prop :=
  Loop2 t4 (.int .i64 0) w fun _ t4_2 t20 w next_2 =>
    binQ Tryz.prog w .lss 3 false t20 t19 fun t21 =>
    condW t21 (
      bdQ Tryz.prog 100 [(0, t12), (1, t20)] fun t26 =>
      bsW Tryz.prog 57 1 [(0, t26)] w fun t27 w =>
      semW Tryz.prog (apS [57, 57] 57 [t4_2, t27]) w fun t28 w =>
      binQ Tryz.prog w .add 3 true t20 (.int .i64 1) fun t29 =>
      next_2 t28 t29 w
    ) (
      binQ Tryz.prog w .add 3 true t12 (.int .i64 1) fun t30 =>
      next t4_2 t30 w
    )

def S19L0 (t1 t11 : Value) (R : Ending → World → Prop) (w : World) : Prop :=
  Loop2 (.slice none 0 0) (.int .i64 0) w fun _ t4 t12 w next =>
    binQ Tryz.prog w .lss 3 false t12 t11 fun t13 =>
    condW t13 (
      ld1 w t1 fun t15 =>
      ncQ t15 fun t16 =>
      fa1 t16 0 fun t17 =>
      fa1 t17 2 fun t18 =>
      ld1 w t18 fun t19 =>
      S19L1 t4 t12 t19 next w
    ) (
      R (.returned (.tuple #[t4, (.func (.func 42) #[] #[t1])])) w
    )



def S19 (t0 : Value) (w : World) (R : Ending → World → Prop) : Prop :=
  boxW 55 t0 w fun t1 w =>
  ld1 w t1 fun t7 =>
  ncQ t7 fun t8 =>
  fa1 t8 0 fun t9 =>
  fa1 t9 0 fun t10 =>
  ld1 w t10 fun t11 =>
  S19L0 t1 t11 R w

def A19 : Ann where
  live := fun
    | 0 => [4, 12]
    | 2 => [4, 20]
    | _ => []
  wr := fun
    | 0 => fun i => (Nat.ble 4 i && Nat.ble i 6) || (Nat.ble 12 i && Nat.ble i 30)
    | 2 => fun i => Nat.beq i 4 || Nat.beq i 6 || (Nat.ble 20 i && Nat.ble i 29)
    | _ => fun _ => false
  sched := fun _ => .done

set_option maxRecDepth 100000 in
theorem ok19 : (codeOk Tryz.f19.ntmps A19 (Tryz.f19.body.getD .skip) 0 && Nat.ble 1 Tryz.f19.ntmps) = true := by kernel_rfl
set_option maxRecDepth 100000 in
theorem lift19 {t0 : Value} {w : World} {R : Ending → World → Prop} (h : S19 t0 w R) : Calls Tryz.prog 19 #[t0] w R :=
  calls_of_cw (fn := Tryz.f19) (c := Tryz.f19.body.getD .skip) A19 mixes Tryz.func19 (by kernel_rfl) ok19
    ((by kernel_rfl : (S19 t0 w R) = cw Tryz.prog A19 (Tryz.f19.body.getD .skip) 0 (bodyQ Tryz.prog Tryz.f19 R) (frOf #[t0]) w).mp h)

def S21 (t0 t1 t2 : Value) (w : World) (R : Ending → World → Prop) : Prop :=
  boxW 71 t0 w fun t3 w =>
  Drew w fun w =>
  fa1 t3 0 fun t8 =>
  ld1 w t8 fun t9 =>
  binQ Tryz.prog w .mul 3 false t9 t1 fun t11 =>
  fa1 t3 1 fun t12 =>
  ld1 w t12 fun t13 =>
  binQ Tryz.prog w .mul 3 false t13 t2 fun t15 =>
  binQ Tryz.prog w .add 3 false t11 t15 fun t16 =>
  fa1 t3 4 fun t17 =>
  ld1 w t17 fun t18 =>
  binQ Tryz.prog w .add 3 false t16 t18 fun t19 =>
  fa1 t3 2 fun t20 =>
  ld1 w t20 fun t21 =>
  binQ Tryz.prog w .mul 3 false t21 t1 fun t23 =>
  fa1 t3 3 fun t24 =>
  ld1 w t24 fun t25 =>
  binQ Tryz.prog w .mul 3 false t25 t2 fun t27 =>
  binQ Tryz.prog w .add 3 false t23 t27 fun t28 =>
  fa1 t3 5 fun t29 =>
  ld1 w t29 fun t30 =>
  binQ Tryz.prog w .add 3 false t28 t30 fun t31 =>
  R (.returned (.tuple #[t19, t31])) w

def A21 : Ann where
  live := fun _ => []
  wr := fun _ _ => false
  sched := fun
    | 1 => (.take 0 (.take 1 (.take 2 (.take 3 (.take 4 (.take 5 (.take 6 (.take 7 (.take 8 (.take 9 (.take 10 (.take 11 (.take 12 (.take 13 (.take 14 (.take 15 (.take 16 (.take 17 (.take 18 (.take 19 (.take 20 (.take 21 (.take 22 (.take 23 (.take 24 (.take 25 .done))))))))))))))))))))))))))
    | _ => .done

set_option maxRecDepth 100000 in
theorem ok21 : (codeOk Tryz.f21.ntmps A21 (Tryz.f21.body.getD .skip) 0 && Nat.ble 3 Tryz.f21.ntmps) = true := by kernel_rfl
set_option maxRecDepth 100000 in
theorem lift21 {t0 t1 t2 : Value} {w : World} {R : Ending → World → Prop} (h : S21 t0 t1 t2 w R) : Calls Tryz.prog 21 #[t0, t1, t2] w R :=
  calls_of_cw (fn := Tryz.f21) (c := Tryz.f21.body.getD .skip) A21 mixes Tryz.func21 (by kernel_rfl) ok21
    ((by kernel_rfl : (S21 t0 t1 t2 w R) = cw Tryz.prog A21 (Tryz.f21.body.getD .skip) 0 (bodyQ Tryz.prog Tryz.f21 R) (frOf #[t0, t1, t2]) w).mp h)

def S38 (t0 t1 : Value) (w : World) (R : Ending → World → Prop) : Prop :=
  lnS t0 fun t5 =>
  ld1 w t1 fun t6 =>
  iaS 1 t6 (.int .i64 0) fun t7 =>
  ld1 w t7 fun t8 =>
  lnS t8 fun t9 =>
  binQ Tryz.prog w .neq 3 false t5 t9 fun t10 =>
  gd t10 false (fun k => k t0 w) w fun t12 w =>
  gd t10 false (fun k => callW Tryz.prog (.func (.func 39) #[] #[]) [t12, (.string ⟨#[97, 98, 99, 100]⟩)] w k) w fun t13 w =>
  gd t10 false (fun k => binQ Tryz.prog w .neq 9 true t13 (.string ⟨#[]⟩) fun v => k v w) w fun t14 w =>
  pickQ t10 (.bool true) t14 fun t15 =>
  R (.returned t15) w

def A38 : Ann where
  live := fun _ => []
  wr := fun _ _ => false
  sched := fun _ => .done

set_option maxRecDepth 100000 in
theorem ok38 : (codeOk Tryz.f38.ntmps A38 (Tryz.f38.body.getD .skip) 0 && Nat.ble 2 Tryz.f38.ntmps) = true := by kernel_rfl
set_option maxRecDepth 100000 in
theorem lift38 {t0 t1 : Value} {w : World} {R : Ending → World → Prop} (h : S38 t0 t1 w R) : Calls Tryz.prog 38 #[t0, t1] w R :=
  calls_of_cw (fn := Tryz.f38) (c := Tryz.f38.body.getD .skip) A38 mixes Tryz.func38 (by kernel_rfl) ok38
    ((by kernel_rfl : (S38 t0 t1 w R) = cw Tryz.prog A38 (Tryz.f38.body.getD .skip) 0 (bodyQ Tryz.prog Tryz.f38 R) (frOf #[t0, t1]) w).mp h)

def S40 (t0 t1 t2 : Value) (w : World) (R : Ending → World → Prop) : Prop :=
  ld1 w t2 fun t6 =>
  bdQ Tryz.prog 71 [(0, (.int .i64 1)), (3, (.int .i64 1)), (4, t0), (5, t1)] fun t9 =>
  callW Tryz.prog (.func (.func 41) #[] #[]) [t6, t9] w fun t10 w =>
  R (.returned t10) w

def A40 : Ann where
  live := fun _ => []
  wr := fun _ _ => false
  sched := fun _ => .done

set_option maxRecDepth 100000 in
theorem ok40 : (codeOk Tryz.f40.ntmps A40 (Tryz.f40.body.getD .skip) 0 && Nat.ble 3 Tryz.f40.ntmps) = true := by kernel_rfl
set_option maxRecDepth 100000 in
theorem lift40 {t0 t1 t2 : Value} {w : World} {R : Ending → World → Prop} (h : S40 t0 t1 t2 w R) : Calls Tryz.prog 40 #[t0, t1, t2] w R :=
  calls_of_cw (fn := Tryz.f40) (c := Tryz.f40.body.getD .skip) A40 mixes Tryz.func40 (by kernel_rfl) ok40
    ((by kernel_rfl : (S40 t0 t1 t2 w R) = cw Tryz.prog A40 (Tryz.f40.body.getD .skip) 0 (bodyQ Tryz.prog Tryz.f40 R) (frOf #[t0, t1, t2]) w).mp h)

def S41L1 (t0 t3 t18 t20 : Value) (next : Value → World → Prop) (R : Ending → World → Prop) (w : World) : Prop :=
  Loop1 (.int .i64 0) w fun _ t24 w next_2 =>
    binQ Tryz.prog w .lss 3 false t24 t18 fun t25 =>
    condW t25 (
      ldN 6 w t3 fun t28 =>
      callW Tryz.prog (.func (.func 21) #[] #[]) [t28, t24, t20] w fun t31 w =>
      exQ t31 0 fun t32 =>
      exQ t31 1 fun t33 =>
      callW Tryz.prog (.func (.func 71) #[] #[]) [t0, t32, t33] w fun t37 w =>
      callW Tryz.prog (.func (.func 71) #[] #[]) [t0, t24, t20] w fun t41 w =>
      binQ Tryz.prog w .neq 5 false t37 t41 fun t42 =>
      condW t42 (
        R (.returned (.bool false)) w
      ) (
        binQ Tryz.prog w .add 3 true t24 (.int .i64 1) fun t43 =>
        next_2 t43 w
      )
    ) (
      binQ Tryz.prog w .add 3 true t20 (.int .i64 1) fun t44 =>
      next t44 w
    )

def S41L0 (t0 t3 t18 : Value) (R : Ending → World → Prop) (w : World) : Prop :=
  Loop1 (.int .i64 0) w fun _ t20 w next =>
    binQ Tryz.prog w .lss 3 false t20 t18 fun t21 =>
    condW t21 (
      S41L1 t0 t3 t18 t20 next R w
    ) (
      R (.returned (.bool true)) w
    )



def S41 (t0 t1 : Value) (w : World) (R : Ending → World → Prop) : Prop :=
  boxW 71 t1 w fun t3 w =>
  Drew w fun w =>
  ncQ t0 fun t11 =>
  fa1 t11 0 fun t12 =>
  ld1 w t12 fun t13 =>
  ncQ t0 fun t15 =>
  fa1 t15 1 fun t16 =>
  ld1 w t16 fun t17 =>
  binQ Tryz.prog w .mul 3 false t13 t17 fun t18 =>
  S41L0 t0 t3 t18 R w

def A41 : Ann where
  live := fun
    | 0 => [20]
    | 2 => [24]
    | _ => []
  wr := fun
    | 0 => fun i => Nat.beq i 4 || (Nat.ble 6 i && Nat.ble i 9) || (Nat.ble 20 i && Nat.ble i 44)
    | 2 => fun i => Nat.beq i 4 || (Nat.ble 7 i && Nat.ble i 9) || (Nat.ble 24 i && Nat.ble i 43)
    | _ => fun _ => false
  sched := fun
    | 1 => (.take 0 (.take 1 (.take 2 (.take 3 (.take 4 (.take 5 (.take 6 (.take 7 (.take 8 (.take 9 .done))))))))))
    | _ => .done

set_option maxRecDepth 100000 in
theorem ok41 : (codeOk Tryz.f41.ntmps A41 (Tryz.f41.body.getD .skip) 0 && Nat.ble 2 Tryz.f41.ntmps) = true := by kernel_rfl
set_option maxRecDepth 100000 in
theorem lift41 {t0 t1 : Value} {w : World} {R : Ending → World → Prop} (h : S41 t0 t1 w R) : Calls Tryz.prog 41 #[t0, t1] w R :=
  calls_of_cw (fn := Tryz.f41) (c := Tryz.f41.body.getD .skip) A41 mixes Tryz.func41 (by kernel_rfl) ok41
    ((by kernel_rfl : (S41 t0 t1 w R) = cw Tryz.prog A41 (Tryz.f41.body.getD .skip) 0 (bodyQ Tryz.prog Tryz.f41 R) (frOf #[t0, t1]) w).mp h)

def S42 (t0 t1 t2 : Value) (w : World) (R : Ending → World → Prop) : Prop :=
  ld1 w t2 fun t7 =>
  ncQ t7 fun t8 =>
  fa1 t8 0 fun t9 =>
  ldN 3 w t9 fun t10 =>
  callW Tryz.prog (.func (.func 43) #[] #[]) [t10, t0, t1] w fun t13 w =>
  exQ t13 0 fun t14 =>
  exQ t13 1 fun t15 =>
  ld1 w t2 fun t17 =>
  ncQ t17 fun t18 =>
  fa1 t18 0 fun t19 =>
  fa1 t19 2 fun t20 =>
  ld1 w t20 fun t21 =>
  binQ Tryz.prog w .mul 3 false t14 t21 fun t22 =>
  binQ Tryz.prog w .add 3 false t22 t15 fun t24 =>
  R (.returned t24) w

def A42 : Ann where
  live := fun _ => []
  wr := fun _ _ => false
  sched := fun _ => .done

set_option maxRecDepth 100000 in
theorem ok42 : (codeOk Tryz.f42.ntmps A42 (Tryz.f42.body.getD .skip) 0 && Nat.ble 3 Tryz.f42.ntmps) = true := by kernel_rfl
set_option maxRecDepth 100000 in
theorem lift42 {t0 t1 t2 : Value} {w : World} {R : Ending → World → Prop} (h : S42 t0 t1 t2 w R) : Calls Tryz.prog 42 #[t0, t1, t2] w R :=
  calls_of_cw (fn := Tryz.f42) (c := Tryz.f42.body.getD .skip) A42 mixes Tryz.func42 (by kernel_rfl) ok42
    ((by kernel_rfl : (S42 t0 t1 t2 w R) = cw Tryz.prog A42 (Tryz.f42.body.getD .skip) 0 (bodyQ Tryz.prog Tryz.f42 R) (frOf #[t0, t1, t2]) w).mp h)

def S43 (t0 t1 t2 : Value) (w : World) (R : Ending → World → Prop) : Prop :=
  boxW 36 t0 w fun t3 w =>
  fa1 t3 0 fun t10 =>
  ld1 w t10 fun t11 =>
  callW Tryz.prog (.func (.func 72) #[] #[]) [t1, t11] w fun t12 w =>
  Drew w fun w =>
  binQ Tryz.prog w .sub 3 false t1 t12 fun t17 =>
  fa1 t3 0 fun t18 =>
  ld1 w t18 fun t19 =>
  binQ Tryz.prog w .quo 3 false t17 t19 fun t20 =>
  fa1 t3 1 fun t21 =>
  ld1 w t21 fun t22 =>
  binQ Tryz.prog w .mul 3 false t20 t22 fun t23 =>
  binQ Tryz.prog w .sub 3 false t2 t23 fun t24 =>
  fa1 t3 2 fun t25 =>
  ld1 w t25 fun t26 =>
  callW Tryz.prog (.func (.func 72) #[] #[]) [t24, t26] w <| keepB w fun t27 w =>
  R (.returned (.tuple #[t12, t27])) w

def A43 : Ann where
  live := fun _ => []
  wr := fun _ _ => false
  sched := fun
    | 2 => (.take 0 (.take 1 (.take 2 (.take 3 (.take 4 (.take 5 (.take 6 (.take 7 (.take 8 (.take 9 (.take 10 (.take 11 (.take 12 (.take 13 (.eff 14 (.take 15 (.take 16 .done)))))))))))))))))
    | _ => .done

set_option maxRecDepth 100000 in
theorem ok43 : (codeOk Tryz.f43.ntmps A43 (Tryz.f43.body.getD .skip) 0 && Nat.ble 3 Tryz.f43.ntmps) = true := by kernel_rfl
set_option maxRecDepth 100000 in
theorem lift43 {t0 t1 t2 : Value} {w : World} {R : Ending → World → Prop} (h : S43 t0 t1 t2 w R) : Calls Tryz.prog 43 #[t0, t1, t2] w R :=
  calls_of_cw (fn := Tryz.f43) (c := Tryz.f43.body.getD .skip) A43 mixes Tryz.func43 (by kernel_rfl) ok43
    ((by kernel_rfl : (S43 t0 t1 t2 w R) = cw Tryz.prog A43 (Tryz.f43.body.getD .skip) 0 (bodyQ Tryz.prog Tryz.f43 R) (frOf #[t0, t1, t2]) w).mp h)

def S71 (t0 t1 t2 : Value) (w : World) (R : Ending → World → Prop) : Prop :=
  Drew w fun w =>
  ncQ t0 fun t8 =>
  fa1 t8 2 fun t9 =>
  ld1 w t9 fun t10 =>
  ncQ t0 fun t13 =>
  fa1 t13 1 fun t14 =>
  ld1 w t14 fun t15 =>
  ncQ t0 fun t21 =>
  fa1 t21 0 fun t22 =>
  ld1 w t22 fun t23 =>
  callW Tryz.prog (.func (.func 72) #[] #[]) [t2, t15] w <| keepB w fun t16 w =>
  iaS 1 t10 t16 fun t17 =>
  ld1 w t17 fun t18 =>
  callW Tryz.prog (.func (.func 72) #[] #[]) [t1, t23] w <| keepB w fun t24 w =>
  semW Tryz.prog (ixS 9 t18 t24) w fun t25 w =>
  R (.returned t25) w

def A71 : Ann where
  live := fun _ => []
  wr := fun _ _ => false
  sched := fun
    | 1 => (.take 0 (.take 1 (.take 2 (.take 3 (.take 4 (.take 5 (.take 6 (.take 7 (.take 8 (.take 12 (.take 13 (.take 14 (.take 15 (.take 16 (.eff 9 (.take 10 (.take 11 (.eff 17 (.bar 18 (.take 19 .done))))))))))))))))))))
    | _ => .done

set_option maxRecDepth 100000 in
theorem ok71 : (codeOk Tryz.f71.ntmps A71 (Tryz.f71.body.getD .skip) 0 && Nat.ble 3 Tryz.f71.ntmps) = true := by kernel_rfl
set_option maxRecDepth 100000 in
theorem lift71 {t0 t1 t2 : Value} {w : World} {R : Ending → World → Prop} (h : S71 t0 t1 t2 w R) : Calls Tryz.prog 71 #[t0, t1, t2] w R :=
  calls_of_cw (fn := Tryz.f71) (c := Tryz.f71.body.getD .skip) A71 mixes Tryz.func71 (by kernel_rfl) ok71
    ((by kernel_rfl : (S71 t0 t1 t2 w R) = cw Tryz.prog A71 (Tryz.f71.body.getD .skip) 0 (bodyQ Tryz.prog Tryz.f71 R) (frOf #[t0, t1, t2]) w).mp h)

def S72 (t0 t1 : Value) (w : World) (R : Ending → World → Prop) : Prop :=
  binQ Tryz.prog w .rem 3 false t0 t1 fun t7 =>
  binQ Tryz.prog w .add 3 false t7 t1 fun t9 =>
  binQ Tryz.prog w .rem 3 false t9 t1 fun t11 =>
  R (.returned t11) w

def A72 : Ann where
  live := fun _ => []
  wr := fun _ _ => false
  sched := fun _ => .done

set_option maxRecDepth 100000 in
theorem ok72 : (codeOk Tryz.f72.ntmps A72 (Tryz.f72.body.getD .skip) 0 && Nat.ble 2 Tryz.f72.ntmps) = true := by kernel_rfl
set_option maxRecDepth 100000 in
theorem lift72 {t0 t1 : Value} {w : World} {R : Ending → World → Prop} (h : S72 t0 t1 w R) : Calls Tryz.prog 72 #[t0, t1] w R :=
  calls_of_cw (fn := Tryz.f72) (c := Tryz.f72.body.getD .skip) A72 mixes Tryz.func72 (by kernel_rfl) ok72
    ((by kernel_rfl : (S72 t0 t1 w R) = cw Tryz.prog A72 (Tryz.f72.body.getD .skip) 0 (bodyQ Tryz.prog Tryz.f72 R) (frOf #[t0, t1]) w).mp h)

def S75 (t0 t1 t2 : Value) (w : World) (R : Ending → World → Prop) : Prop :=
  boxW 71 t2 w fun t5 w =>
  Drew w fun w =>
  ncQ t0 fun t11 =>
  fa1 t11 0 fun t12 =>
  ldN 3 w t12 fun t13 =>
  fa1 t5 4 fun t14 =>
  ld1 w t14 fun t15 =>
  fa1 t5 5 fun t16 =>
  ld1 w t16 fun t17 =>
  callW Tryz.prog (.func (.func 43) #[] #[]) [t13, t15, t17] w fun t18 w =>
  exQ t18 0 fun t19 =>
  exQ t18 1 fun t20 =>
  ncQ t0 fun t25 =>
  fa1 t25 4 fun t26 =>
  iaA 8 36 t26 t1 fun t27 =>
  iaA 6 6 t27 t19 fun t28 =>
  iaA 6 1 t28 t20 fun t29 =>
  ld1 w t29 fun t30 =>
  R (.returned t30) w

def A75 : Ann where
  live := fun _ => []
  wr := fun _ _ => false
  sched := fun
    | 1 => (.take 0 (.take 1 (.take 2 (.take 3 (.take 4 (.take 5 (.take 6 (.take 7 (.bar 8 (.take 9 (.take 10 (.take 11 (.take 12 (.take 13 .done))))))))))))))
    | _ => .done

set_option maxRecDepth 100000 in
theorem ok75 : (codeOk Tryz.f75.ntmps A75 (Tryz.f75.body.getD .skip) 0 && Nat.ble 3 Tryz.f75.ntmps) = true := by kernel_rfl
set_option maxRecDepth 100000 in
theorem lift75 {t0 t1 t2 : Value} {w : World} {R : Ending → World → Prop} (h : S75 t0 t1 t2 w R) : Calls Tryz.prog 75 #[t0, t1, t2] w R :=
  calls_of_cw (fn := Tryz.f75) (c := Tryz.f75.body.getD .skip) A75 mixes Tryz.func75 (by kernel_rfl) ok75
    ((by kernel_rfl : (S75 t0 t1 t2 w R) = cw Tryz.prog A75 (Tryz.f75.body.getD .skip) 0 (bodyQ Tryz.prog Tryz.f75 R) (frOf #[t0, t1, t2]) w).mp h)

def S76 (t0 : Value) (w : World) (R : Ending → World → Prop) : Prop :=
  boxW 71 t0 w fun t1 w =>
  ldN 6 w t1 fun t4 =>
  callW Tryz.prog (.func (.func 77) #[] #[]) [t4] w fun t5 w =>
  binQ Tryz.prog w .eql 3 true t5 (.int .i64 4) fun t7 =>
  condW t7 (
    Drew w fun w =>
    fa1 t1 5 fun t8 =>
    ld1 w t8 fun t9 =>
    fa1 t1 4 fun t10 =>
    ld1 w t10 fun t11 =>
    R (.returned (.tuple #[t9, t11])) w
  ) (
    binQ Tryz.prog w .eql 3 true t5 (.int .i64 5) fun t13 =>
    condW t13 (
      Drew w fun w =>
      fa1 t1 4 fun t14 =>
      ld1 w t14 fun t15 =>
      fa1 t1 5 fun t16 =>
      ld1 w t16 fun t17 =>
      R (.returned (.tuple #[t15, t17])) w
    ) (
      binQ Tryz.prog w .eql 3 true t5 (.int .i64 6) fun t19 =>
      condW t19 (
        Drew w fun w =>
        fa1 t1 4 fun t20 =>
        ld1 w t20 fun t21 =>
        fa1 t1 5 fun t22 =>
        ld1 w t22 fun t23 =>
        binQ Tryz.prog w .sub 3 false t21 t23 fun t24 =>
        fa1 t1 4 fun t25 =>
        ld1 w t25 fun t26 =>
        fa1 t1 5 fun t27 =>
        ld1 w t27 fun t28 =>
        binQ Tryz.prog w .add 3 false t26 t28 fun t29 =>
        R (.returned (.tuple #[t24, t29])) w
      ) (
        Drew w fun w =>
        fa1 t1 4 fun t30 =>
        ld1 w t30 fun t31 =>
        fa1 t1 5 fun t32 =>
        ld1 w t32 fun t33 =>
        binQ Tryz.prog w .add 3 false t31 t33 fun t34 =>
        fa1 t1 4 fun t35 =>
        ld1 w t35 fun t36 =>
        fa1 t1 5 fun t37 =>
        ld1 w t37 fun t38 =>
        binQ Tryz.prog w .sub 3 false t36 t38 fun t39 =>
        R (.returned (.tuple #[t34, t39])) w
      )
    )
  )

def A76 : Ann where
  live := fun _ => []
  wr := fun _ _ => false
  sched := fun
    | 3 => (.take 0 (.take 1 (.take 2 (.take 3 (.take 4 (.take 5 .done))))))
    | 5 => (.take 0 (.take 1 (.take 2 (.take 3 (.take 4 (.take 5 .done))))))
    | 7 => (.take 0 (.take 1 (.take 2 (.take 3 (.take 4 (.take 5 (.take 6 (.take 7 (.take 8 (.take 9 (.take 10 (.take 11 .done))))))))))))
    | 8 => (.take 0 (.take 1 (.take 2 (.take 3 (.take 4 (.take 5 (.take 6 (.take 7 (.take 8 (.take 9 (.take 10 (.take 11 .done))))))))))))
    | _ => .done

set_option maxRecDepth 100000 in
theorem ok76 : (codeOk Tryz.f76.ntmps A76 (Tryz.f76.body.getD .skip) 0 && Nat.ble 1 Tryz.f76.ntmps) = true := by kernel_rfl
set_option maxRecDepth 100000 in
theorem lift76 {t0 : Value} {w : World} {R : Ending → World → Prop} (h : S76 t0 w R) : Calls Tryz.prog 76 #[t0] w R :=
  calls_of_cw (fn := Tryz.f76) (c := Tryz.f76.body.getD .skip) A76 mixes Tryz.func76 (by kernel_rfl) ok76
    ((by kernel_rfl : (S76 t0 w R) = cw Tryz.prog A76 (Tryz.f76.body.getD .skip) 0 (bodyQ Tryz.prog Tryz.f76 R) (frOf #[t0]) w).mp h)

def S77 (t0 : Value) (w : World) (R : Ending → World → Prop) : Prop :=
  boxW 71 t0 w fun t1 w =>
  fa1 t1 4 fun t3 =>
  stW Tryz.prog 3 t3 (.int .i64 0) w fun w =>
  fa1 t1 5 fun t4 =>
  stW Tryz.prog 3 t4 (.int .i64 0) w fun w =>
  Drew w fun w =>
  slA 8 6 (.pointer (some ⟨0, 0, none⟩)) none none fun t5 =>
  ldN 6 w t1 fun t6 =>
  callW Tryz.prog (.func (.func 93) #[] #[]) [t5, t6] w fun t7 w =>
  R (.returned t7) w

def A77 : Ann where
  live := fun _ => []
  wr := fun _ _ => false
  sched := fun
    | 2 => (.take 0 (.take 1 (.bar 2 (.take 3 .done))))
    | _ => .done

set_option maxRecDepth 100000 in
theorem ok77 : (codeOk Tryz.f77.ntmps A77 (Tryz.f77.body.getD .skip) 0 && Nat.ble 1 Tryz.f77.ntmps) = true := by kernel_rfl
set_option maxRecDepth 100000 in
theorem lift77 {t0 : Value} {w : World} {R : Ending → World → Prop} (h : S77 t0 w R) : Calls Tryz.prog 77 #[t0] w R :=
  calls_of_cw (fn := Tryz.f77) (c := Tryz.f77.body.getD .skip) A77 mixes Tryz.func77 (by kernel_rfl) ok77
    ((by kernel_rfl : (S77 t0 w R) = cw Tryz.prog A77 (Tryz.f77.body.getD .skip) 0 (bodyQ Tryz.prog Tryz.f77 R) (frOf #[t0]) w).mp h)

def S93L0 (t0 t3 t7 : Value) (R : Ending → World → Prop) (w : World) : Prop :=
  Loop1 (.int .i64 0) w fun _ t8 w next =>
    binQ Tryz.prog w .lss 3 false t8 t7 fun t9 =>
    condW t9 (
      Drew w fun w =>
      ldN 6 w t3 fun t11 =>
      iaS 6 t0 t8 fun t14 =>
      ldN 6 w t14 fun t15 =>
      binQ Tryz.prog w .eql 71 false t11 t15 fun t16 =>
      condW t16 (
        R (.returned t8) w
      ) (
        binQ Tryz.prog w .add 3 true t8 (.int .i64 1) fun t18 =>
        next t18 w
      )
    ) (
      R (.returned (.int .i64 (-1))) w
    )



def S93 (t0 t1 : Value) (w : World) (R : Ending → World → Prop) : Prop :=
  boxW 71 t1 w fun t3 w =>
  ln1 t0 fun t7 =>
  S93L0 t0 t3 t7 R w

def A93 : Ann where
  live := fun
    | 0 => [8]
    | _ => []
  wr := fun
    | 0 => fun i => (Nat.ble 4 i && Nat.ble i 5) || (Nat.ble 8 i && Nat.ble i 18)
    | _ => fun _ => false
  sched := fun
    | 4 => (.take 0 (.take 1 (.take 2 (.take 3 (.take 4 (.take 5 .done))))))
    | _ => .done

set_option maxRecDepth 100000 in
theorem ok93 : (codeOk Tryz.f93.ntmps A93 (Tryz.f93.body.getD .skip) 0 && Nat.ble 2 Tryz.f93.ntmps) = true := by kernel_rfl
set_option maxRecDepth 100000 in
theorem lift93 {t0 t1 : Value} {w : World} {R : Ending → World → Prop} (h : S93 t0 t1 w R) : Calls Tryz.prog 93 #[t0, t1] w R :=
  calls_of_cw (fn := Tryz.f93) (c := Tryz.f93.body.getD .skip) A93 mixes Tryz.func93 (by kernel_rfl) ok93
    ((by kernel_rfl : (S93 t0 t1 w R) = cw Tryz.prog A93 (Tryz.f93.body.getD .skip) 0 (bodyQ Tryz.prog Tryz.f93 R) (frOf #[t0, t1]) w).mp h)

theorem fok7 : fnOk Tryz.prog 7 = true := by kernel_rfl
theorem fok10 : fnOk Tryz.prog 10 = true := by kernel_rfl
theorem fok16 : fnOk Tryz.prog 16 = true := by kernel_rfl
theorem fok17 : fnOk Tryz.prog 17 = true := by kernel_rfl
theorem fok18 : fnOk Tryz.prog 18 = true := by kernel_rfl
theorem fok19 : fnOk Tryz.prog 19 = true := by kernel_rfl
theorem fok21 : fnOk Tryz.prog 21 = true := by kernel_rfl
theorem fok38 : fnOk Tryz.prog 38 = true := by kernel_rfl
theorem fok40 : fnOk Tryz.prog 40 = true := by kernel_rfl
theorem fok41 : fnOk Tryz.prog 41 = true := by kernel_rfl
theorem fok42 : fnOk Tryz.prog 42 = true := by kernel_rfl
theorem fok43 : fnOk Tryz.prog 43 = true := by kernel_rfl
theorem fok71 : fnOk Tryz.prog 71 = true := by kernel_rfl
theorem fok72 : fnOk Tryz.prog 72 = true := by kernel_rfl
theorem fok75 : fnOk Tryz.prog 75 = true := by kernel_rfl
theorem fok76 : fnOk Tryz.prog 76 = true := by kernel_rfl
theorem fok77 : fnOk Tryz.prog 77 = true := by kernel_rfl
theorem fok93 : fnOk Tryz.prog 93 = true := by kernel_rfl
end Go.Proofs.YtfmppkplmfbjpaaGreatDoor

/- Periodic floors plainly: their translations and the lattice of these. No program. -/
namespace Go.Pt

/-- A floor that repeats with w and h. -/
structure Per (F : Int → Int → Nat) (w h : Nat) : Prop where
  w0 : 0 < w
  h0 : 0 < h
  pw : ∀ x y, F (x + w) y = F x y
  ph : ∀ x y, F x (y + h) = F x y
/-- A translation that is a symmetry. -/
def Tr (F : Int → Int → Nat) (a b : Int) : Prop := ∀ x y, F (x + a) (y + b) = F x y

variable {F : Int → Int → Nat} {w h : Nat}
theorem Tr.zero : Tr F 0 0 := fun x y => by rw [Int.add_zero, Int.add_zero]
theorem Tr.add {a b c d : Int} (h1 : Tr F a b) (h2 : Tr F c d) : Tr F (a + c) (b + d) := fun x y => by
  rw [← Int.add_assoc, ← Int.add_assoc, h2, h1]
theorem Tr.neg {a b : Int} (h1 : Tr F a b) : Tr F (-a) (-b) := fun x y => by
  have := h1 (x + -a) (y + -b)
  rw [Int.neg_add_cancel_right, Int.neg_add_cancel_right] at this
  exact this.symm
theorem Tr.nat {a b : Int} (h1 : Tr F a b) : ∀ n : Nat, Tr F (n * a) (n * b)
  | 0 => by simpa using (Tr.zero (F := F))
  | n + 1 => by
    have := (Tr.nat h1 n).add h1
    have e : ∀ z : Int, ((n + 1 : Nat) : Int) * z = n * z + z := fun z => by rw [Int.natCast_add, Int.add_mul]; simp
    rw [e, e]; exact this
theorem Tr.mul {a b : Int} (h1 : Tr F a b) (n : Int) : Tr F (n * a) (n * b) := by
  rcases Int.eq_nat_or_neg n with ⟨m, rfl | rfl⟩
  · exact h1.nat m
  · have := (h1.nat m).neg
    rw [Int.neg_mul, Int.neg_mul]; exact this
theorem Tr.sub {a b c d : Int} (h1 : Tr F a b) (h2 : Tr F c d) : Tr F (a - c) (b - d) := by
  rw [Int.sub_eq_add_neg, Int.sub_eq_add_neg]; exact h1.add h2.neg
theorem Per.tw (p : Per F w h) : Tr F w 0 := fun x y => by rw [Int.add_zero]; exact p.pw x y
theorem Per.th (p : Per F w h) : Tr F 0 h := fun x y => by rw [Int.add_zero]; exact p.ph x y
theorem Tr.red {a b : Int} {D : Nat} (hD : Tr F 0 D) (h1 : Tr F a b) : Tr F a (b % D) := by
  have := h1.sub (hD.mul (b / D))
  have e : b - b / D * D = b % D := by have := Int.emod_add_mul_ediv b D; rw [Int.mul_comm]; omega
  rw [Int.mul_zero, Int.sub_zero, e] at this; exact this

/-- What lattice finds. -/
structure LatOk (F : Int → Int → Nat) (w h A B D : Nat) : Prop where
  d1 : 1 ≤ D
  dh : D ≤ h
  a1 : 1 ≤ A
  aw : A ≤ w
  bd : B < D
  td : Tr F 0 D
  ld : ∀ y : Nat, 1 ≤ y → y < D → ¬ Tr F 0 y
  tab : Tr F A B
  la : ∀ x : Nat, 1 ≤ x → x < A → ∀ y : Nat, y < D → ¬ Tr F x y

variable {A B D : Nat}
theorem LatOk.col (o : LatOk F w h A B D) {b : Int} (hb : Tr F 0 b) : (D : Int) ∣ b := by
  have h1 := o.td.red hb
  have hp : (0 : Int) < D := by have := o.d1; omega
  have h2 := Int.emod_nonneg b (show (D : Int) ≠ 0 by omega)
  have h3 := Int.emod_lt_of_pos b hp
  have e : b % (D : Int) = ((b % (D : Int)).toNat : Nat) := by omega
  rw [e] at h1
  by_cases hz : (b % (D : Int)).toNat = 0
  · exact Int.dvd_of_emod_eq_zero (by omega)
  · exact absurd h1 (o.ld _ (by omega) (by omega))
theorem LatOk.row (o : LatOk F w h A B D) {a b : Int} (hab : Tr F a b) : (A : Int) ∣ a := by
  have hp : (0 : Int) < A := by have := o.a1; omega
  have h1 := hab.sub (o.tab.mul (a / A))
  have e1 : a - a / A * A = a % A := by have := Int.emod_add_mul_ediv a A; rw [Int.mul_comm]; omega
  rw [e1] at h1
  have h4 := o.td.red h1
  have h2 := Int.emod_nonneg a (show (A : Int) ≠ 0 by omega)
  have h3 := Int.emod_lt_of_pos a hp
  have hd : (0 : Int) < D := by have := o.d1; omega
  have h5 := Int.emod_nonneg (b - a / A * B) (show (D : Int) ≠ 0 by omega)
  have h6 := Int.emod_lt_of_pos (b - a / A * B) hd
  generalize (b - a / A * (B : Int)) % (D : Int) = r at *
  generalize hq : a % (A : Int) = q at *
  have e2 : q = (q.toNat : Nat) := by omega
  have e3 : r = (r.toNat : Nat) := by omega
  rw [e2, e3] at h4
  by_cases hz : q = 0
  · exact Int.dvd_of_emod_eq_zero (by omega)
  · exact absurd h4 (o.la _ (by omega) (by omega) _ (by omega))
theorem LatOk.dvd_h (o : LatOk F w h A B D) (p : Per F w h) : D ∣ h := Int.natCast_dvd_natCast.1 (o.col p.th)
theorem LatOk.dvd_w (o : LatOk F w h A B D) (p : Per F w h) : A ∣ w := Int.natCast_dvd_natCast.1 (o.row p.tw)
theorem LatOk.dvd_b (o : LatOk F w h A B D) (p : Per F w h) : D ∣ w / A * B := by
  obtain ⟨k, hk⟩ := o.dvd_w p
  have ha := o.a1
  have e : w / A = k := by rw [hk, Nat.mul_div_cancel_left _ (by omega)]
  have h1 := (o.tab.mul k).sub p.tw
  have e2 : (k : Int) * A - w = 0 := by rw [hk, Int.natCast_mul, Int.mul_comm]; omega
  rw [e2, Int.sub_zero] at h1
  rw [e]
  have := o.col h1
  rw [← Int.natCast_mul] at this
  exact Int.natCast_dvd_natCast.1 this
theorem LatOk.straight (o : LatOk F w h A B D) (hB : B = 0) : Per F A D := by
  subst hB
  exact ⟨o.a1, o.d1, fun x y => by have := o.tab x y; simpa using this, fun x y => by have := o.td x y; simpa using this⟩

/-- Only the cells of one board need be looked at. -/
theorem per_mod (p : Per F w h) (x y : Int) : F x y = F (x % w) (y % h) := by
  have h1 := p.tw.mul (x / w)
  have h2 := p.th.mul (y / h)
  have h3 := h1.add h2 (x % w) (y % h)
  have e1 : x % w + (x / w * w + y / h * 0) = x := by have := Int.emod_add_mul_ediv x w; rw [Int.mul_zero, Int.add_zero, Int.mul_comm]; exact this
  have e2 : y % h + (x / w * 0 + y / h * h) = y := by have := Int.emod_add_mul_ediv y h; rw [Int.mul_zero, Int.zero_add, Int.mul_comm]; exact this
  rw [e1, e2] at h3
  exact h3
theorem tr_of_cells (p : Per F w h) {a b : Int} {n : Nat} (hw : w ≤ n) (hh : h ≤ n) (hc : ∀ y : Nat, y < n → ∀ x : Nat, x < n → F (x + a) (y + b) = F x y) : Tr F a b := fun x y => by
  have hw0 := p.w0
  have hh0 := p.h0
  have x1 := Int.emod_nonneg x (show (w : Int) ≠ 0 by omega)
  have x2 := Int.emod_lt_of_pos x (show (0 : Int) < w by omega)
  have y1 := Int.emod_nonneg y (show (h : Int) ≠ 0 by omega)
  have y2 := Int.emod_lt_of_pos y (show (0 : Int) < h by omega)
  have h1 := p.tw.mul (x / w)
  have h2 := p.th.mul (y / h)
  have h3 := h1.add h2 (x % w + a) (y % h + b)
  have e1 : x % w + a + (x / w * w + y / h * 0) = x + a := by have := Int.emod_add_mul_ediv x w; rw [Int.mul_zero, Int.add_zero, Int.mul_comm (x / w)]; omega
  have e2 : y % h + b + (x / w * 0 + y / h * h) = y + b := by have := Int.emod_add_mul_ediv y h; rw [Int.mul_zero, Int.zero_add, Int.mul_comm (y / h)]; omega
  rw [e1, e2] at h3
  rw [h3, per_mod p x y]
  have e3 : x % w = ((x % w).toNat : Nat) := by omega
  have e4 : y % h = ((y % h).toNat : Nat) := by omega
  rw [e3, e4]
  exact hc _ (by omega) _ (by omega)

end Go.Pt
