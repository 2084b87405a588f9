/- Texts of my own, merged by program: Sa Ta. -/
import Derived.Test.YtfmppkplmfbjpaaGreatDoorM03
import Derived.Test.YtfmppkplmfbjpaaGreatDoorM07
import Derived.Shelf.Strings.SlTrimAscii
set_option linter.all false
/- Lifted texts, printed by program (gen.py): what each function's code asks. The ties are by the kernel. -/
namespace Go.Proofs.YtfmppkplmfbjpaaGreatDoor
open Go.Lf Go.RowKit

def S28 (t0 : Value) (w : World) (R : Ending → World → Prop) : Prop :=
  callW Tryz.prog (.func (.func 53) #[] #[]) [t0] w fun t8 w =>
  exQ t8 0 fun t9 =>
  exQ t8 1 fun t10 =>
  boxW 117 (.agg #[(.int .i64 0), (.int .i64 0), (.slice none 0 0)]) w fun t4 w =>
  stW Tryz.prog 117 t4 t9 w fun w =>
  unQ .not t10 fun t12 =>
  condW t12 (
    R (.returned (.tuple #[(.int .i64 0), (.int .i64 2)])) w
  ) (
    ldN 3 w t4 fun t13 =>
    callW Tryz.prog (.func (.func 54) #[] #[]) [t13] w fun t14 w =>
    bdQ Tryz.prog 126 [] fun t15 =>
    callW Tryz.prog (.func (.func 55) #[] #[]) [t14, t15] w fun t16 w =>
    R (.returned (.tuple #[t16, (.int .i64 0)])) w
  )

def A28 : Ann where
  live := fun _ => []
  wr := fun _ _ => false
  sched := fun _ => .done

set_option maxRecDepth 100000 in
theorem ok28 : (codeOk Tryz.f28.ntmps A28 (Tryz.f28.body.getD .skip) 0 && Nat.ble 1 Tryz.f28.ntmps) = true := by kernel_rfl
set_option maxRecDepth 100000 in
theorem lift28 {t0 : Value} {w : World} {R : Ending → World → Prop} (h : S28 t0 w R) : Calls Tryz.prog 28 #[t0] w R :=
  calls_of_cw (fn := Tryz.f28) (c := Tryz.f28.body.getD .skip) A28 mixes Tryz.func28 (by kernel_rfl) ok28
    ((by kernel_rfl : (S28 t0 w R) = cw Tryz.prog A28 (Tryz.f28.body.getD .skip) 0 (bodyQ Tryz.prog Tryz.f28 R) (frOf #[t0]) w).mp h)

def S29 (t0 t1 : Value) (w : World) (R : Ending → World → Prop) : Prop :=
  callW Tryz.prog (.func (.func 56) #[] #[]) [t0, t1] w fun t13 w =>
  exQ t13 0 fun t14 =>
  exQ t13 1 fun t15 =>
  boxW 127 (.pointer none) w fun t6 w =>
  stW Tryz.prog 127 t6 t14 w fun w =>
  binQ Tryz.prog w .neq 26 true t15 (.int .i64 0) fun t17 =>
  condW t17 (
    R (.returned (.tuple #[(.int .i64 0), t15])) w
  ) (
    mmW w fun t19 w =>
    ld1 w t6 fun t20 =>
    ncQ t20 fun t21 =>
    fa1 t21 0 fun t22 =>
    ld1 w t22 fun t23 =>
    ncQ t23 fun t24 =>
    fa1 t24 0 fun t25 =>
    ld1 w t25 fun t26 =>
    ln1 t26 fun t27 =>
    binQ Tryz.prog w .shl 3 true (.int .i64 1) t27 fun t28 =>
    binQ Tryz.prog w .sub 3 true t28 (.int .i64 1) fun t29 =>
    semW Tryz.prog (muS 137 t19 t29 (.int .i64 1)) w fun _ w =>
    boxW 137 (.map none) w fun t8 w =>
    stW Tryz.prog 137 t8 t19 w fun w =>
    boxW 78 .nilFunc w fun t9 w =>
    stW Tryz.prog 78 t9 (.func (.func 57) #[] #[t8, t6, t9]) w fun w =>
    ld1 w t9 fun t32 =>
    callW Tryz.prog t32 [(.int .i64 0)] w fun t33 w =>
    R (.returned (.tuple #[t33, (.int .i64 0)])) w
  )

def A29 : Ann where
  live := fun _ => []
  wr := fun _ _ => false
  sched := fun _ => .done

set_option maxRecDepth 100000 in
theorem ok29 : (codeOk Tryz.f29.ntmps A29 (Tryz.f29.body.getD .skip) 0 && Nat.ble 2 Tryz.f29.ntmps) = true := by kernel_rfl
set_option maxRecDepth 100000 in
theorem lift29 {t0 t1 : Value} {w : World} {R : Ending → World → Prop} (h : S29 t0 t1 w R) : Calls Tryz.prog 29 #[t0, t1] w R :=
  calls_of_cw (fn := Tryz.f29) (c := Tryz.f29.body.getD .skip) A29 mixes Tryz.func29 (by kernel_rfl) ok29
    ((by kernel_rfl : (S29 t0 t1 w R) = cw Tryz.prog A29 (Tryz.f29.body.getD .skip) 0 (bodyQ Tryz.prog Tryz.f29 R) (frOf #[t0, t1]) w).mp h)

def S30 (w : World) (R : Ending → World → Prop) : Prop :=
  bdQ Tryz.prog 100 [(0, (.int .i64 0)), (1, (.int .i64 0))] fun t1 =>
  bdQ Tryz.prog 100 [(0, (.int .i64 1)), (1, (.int .i64 0))] fun t2 =>
  bsW Tryz.prog 141 2 [(0, t1), (1, t2)] w fun t3 w =>
  bdQ Tryz.prog 100 [(0, (.int .i64 0)), (1, (.int .i64 0))] fun t4 =>
  bdQ Tryz.prog 100 [(0, (.int .i64 0)), (1, (.int .i64 1))] fun t5 =>
  bsW Tryz.prog 141 2 [(0, t4), (1, t5)] w fun t6 w =>
  bsW Tryz.prog 83 2 [(0, t3), (1, t6)] w fun t7 w =>
  R (.returned t7) w

def A30 : Ann where
  live := fun _ => []
  wr := fun _ _ => false
  sched := fun _ => .done

set_option maxRecDepth 100000 in
theorem ok30 : (codeOk Tryz.f30.ntmps A30 (Tryz.f30.body.getD .skip) 0 && Nat.ble 0 Tryz.f30.ntmps) = true := by kernel_rfl
set_option maxRecDepth 100000 in
theorem lift30 {w : World} {R : Ending → World → Prop} (h : S30 w R) : Calls Tryz.prog 30 #[] w R :=
  calls_of_cw (fn := Tryz.f30) (c := Tryz.f30.body.getD .skip) A30 mixes Tryz.func30 (by kernel_rfl) ok30
    ((by kernel_rfl : (S30 w R) = cw Tryz.prog A30 (Tryz.f30.body.getD .skip) 0 (bodyQ Tryz.prog Tryz.f30 R) (frOf #[]) w).mp h)

def S53 (t0 : Value) (w : World) (R : Ending → World → Prop) : Prop :=
  boxW 32 t0 w fun t1 w =>
  boxW 117 (.agg #[(.int .i64 0), (.int .i64 0), (.slice none 0 0)]) w fun t2 w =>
  ld1 w t1 fun t5 =>
  ln1 t5 fun t6 =>
  binQ Tryz.prog w .lss 3 true t6 (.int .i64 1) fun t7 =>
  gd t7 false (fun k => ld1 w t1 fun v => k v w) w fun t9 w =>
  gd t7 false (fun k => ln1 t9 fun v => k v w) w fun t10 w =>
  gd t7 false (fun k => binQ Tryz.prog w .gtr 3 true t10 (.int .i64 8) fun v => k v w) w fun t11 w =>
  pickQ t7 (.bool true) t11 fun t12 =>
  gd t12 false (fun k => ld1 w t1 fun v => k v w) w fun t14 w =>
  gd t12 false (fun k => iaS 1 t14 (.int .i64 0) fun v => k v w) w fun t15 w =>
  gd t12 false (fun k => ld1 w t15 fun v => k v w) w fun t16 w =>
  gd t12 false (fun k => lnS t16 fun v => k v w) w fun t17 w =>
  gd t12 false (fun k => binQ Tryz.prog w .lss 3 true t17 (.int .i64 1) fun v => k v w) w fun t18 w =>
  pickQ t12 (.bool true) t18 fun t19 =>
  gd t19 false (fun k => ld1 w t1 fun v => k v w) w fun t21 w =>
  gd t19 false (fun k => iaS 1 t21 (.int .i64 0) fun v => k v w) w fun t22 w =>
  gd t19 false (fun k => ld1 w t22 fun v => k v w) w fun t23 w =>
  gd t19 false (fun k => lnS t23 fun v => k v w) w fun t24 w =>
  gd t19 false (fun k => binQ Tryz.prog w .gtr 3 true t24 (.int .i64 8) fun v => k v w) w fun t25 w =>
  pickQ t19 (.bool true) t25 fun t26 =>
  condW t26 (
    bdQ Tryz.prog 117 [] fun t27 =>
    stW Tryz.prog 117 t2 t27 w fun w =>
    ldN 3 w t2 fun r =>
    R (.returned (.tuple #[r, (.bool false)])) w
  ) (
    ld1 w t1 fun t29 =>
    callW Tryz.prog (.func (.func 37) #[] #[]) [t29, (.func (.func 78) #[] #[t1])] w fun t31 w =>
    condW t31 (
      bdQ Tryz.prog 117 [] fun t32 =>
      stW Tryz.prog 117 t2 t32 w fun w =>
      ldN 3 w t2 fun r_2 =>
      R (.returned (.tuple #[r_2, (.bool false)])) w
    ) (
      Drew w fun w =>
      ld1 w t1 fun t33 =>
      iaS 1 t33 (.int .i64 0) fun t34 =>
      ld1 w t34 fun t35 =>
      lnS t35 fun t36 =>
      ld1 w t1 fun t37 =>
      ln1 t37 fun t38 =>
      ld1 w t1 fun t39 =>
      bdQ Tryz.prog 117 [(0, t36), (1, t38), (2, t39)] fun t40 =>
      stW Tryz.prog 117 t2 t40 w fun w =>
      ldN 3 w t2 fun r_3 =>
      R (.returned (.tuple #[r_3, (.bool true)])) w
    )
  )

def A53 : Ann where
  live := fun _ => []
  wr := fun _ _ => false
  sched := fun
    | 6 => (.take 0 (.take 1 (.take 2 (.take 3 (.take 4 (.take 5 (.take 6 (.take 7 (.bar 8 (.take 9 .done))))))))))
    | _ => .done

set_option maxRecDepth 100000 in
theorem ok53 : (codeOk Tryz.f53.ntmps A53 (Tryz.f53.body.getD .skip) 0 && Nat.ble 1 Tryz.f53.ntmps) = true := by kernel_rfl
set_option maxRecDepth 100000 in
theorem lift53 {t0 : Value} {w : World} {R : Ending → World → Prop} (h : S53 t0 w R) : Calls Tryz.prog 53 #[t0] w R :=
  calls_of_cw (fn := Tryz.f53) (c := Tryz.f53.body.getD .skip) A53 mixes Tryz.func53 (by kernel_rfl) ok53
    ((by kernel_rfl : (S53 t0 w R) = cw Tryz.prog A53 (Tryz.f53.body.getD .skip) 0 (bodyQ Tryz.prog Tryz.f53 R) (frOf #[t0]) w).mp h)

def S54 (t0 : Value) (w : World) (R : Ending → World → Prop) : Prop :=
  boxW 117 t0 w fun t1 w =>
  boxW 122 (.agg #[(.int .i64 0), (.int .i64 0), (.slice none 0 0), (.map none)]) w fun t2 w =>
  ldN 3 w t1 fun t3 =>
  mmW w fun t4 w =>
  bdQ Tryz.prog 122 [(0, t3), (1, t4)] fun t5 =>
  stW Tryz.prog 122 t2 t5 w fun w =>
  ldN 4 w t2 fun r =>
  R (.returned r) w

def A54 : Ann where
  live := fun _ => []
  wr := fun _ _ => false
  sched := fun _ => .done

set_option maxRecDepth 100000 in
theorem ok54 : (codeOk Tryz.f54.ntmps A54 (Tryz.f54.body.getD .skip) 0 && Nat.ble 1 Tryz.f54.ntmps) = true := by kernel_rfl
set_option maxRecDepth 100000 in
theorem lift54 {t0 : Value} {w : World} {R : Ending → World → Prop} (h : S54 t0 w R) : Calls Tryz.prog 54 #[t0] w R :=
  calls_of_cw (fn := Tryz.f54) (c := Tryz.f54.body.getD .skip) A54 mixes Tryz.func54 (by kernel_rfl) ok54
    ((by kernel_rfl : (S54 t0 w R) = cw Tryz.prog A54 (Tryz.f54.body.getD .skip) 0 (bodyQ Tryz.prog Tryz.f54 R) (frOf #[t0]) w).mp h)

def S55L0 (t2 t3 t38 t39 : Value) (R : Ending → World → Prop) (w : World) : Prop :=
  Loop2 (.int .i64 0) (.int .i64 0) w fun _ t7 t40 w next =>
    binQ Tryz.prog w .lss 3 false t40 t39 fun t41 =>
    condW t41 (
      iaS 2 t38 t40 fun t42 =>
      ldN 2 w t42 fun t43 =>
      boxW 126 (.agg #[(.int .i64 0), (.int .i64 0)]) w fun t9 w =>
      stW Tryz.prog 126 t9 t43 w fun w =>
      fa1 t9 0 fun t44 =>
      ld1 w t44 fun t45 =>
      binQ Tryz.prog w .gtr 3 true t45 (.int .i64 0) fun t46 =>
      Join (fun (k_2 : Value → World → Prop) =>
        condW t46 (
          ldN 4 w t2 fun t48 =>
          ldN 2 w t9 fun t49 =>
          callW Tryz.prog (.func (.func 55) #[] #[]) [t48, t49] w fun t50 w =>
          binQ Tryz.prog w .add 3 false t7 t50 fun t51 =>
          k_2 t51 w
        ) (
          k_2 t7 w
        )
      ) fun t7_2 w =>
      binQ Tryz.prog w .add 3 true t40 (.int .i64 1) fun t52_2 =>
      next t7_2 t52_2 w
    ) (
      fa1 t2 3 fun t53 =>
      ld1 w t53 fun t54 =>
      ldN 2 w t3 fun t55 =>
      semW Tryz.prog (muS 120 t54 t55 t7) w fun _ w =>
      R (.returned t7) w
    )

def S55 (t0 t1 : Value) (w : World) (R : Ending → World → Prop) : Prop :=
  boxW 122 t0 w fun t2 w =>
  boxW 126 t1 w fun t3 w =>
  fa1 t3 0 fun t10 =>
  ld1 w t10 fun t11 =>
  fa1 t2 0 fun t12 =>
  fa1 t12 0 fun t13 =>
  ld1 w t13 fun t14 =>
  fa1 t2 0 fun t15 =>
  fa1 t15 1 fun t16 =>
  ld1 w t16 fun t17 =>
  binQ Tryz.prog w .mul 3 false t14 t17 fun t18 =>
  binQ Tryz.prog w .eql 3 false t11 t18 fun t19 =>
  condW t19 (
    R (.returned (.int .i64 1)) w
  ) (
    fa1 t2 3 fun t21 =>
    ld1 w t21 fun t22 =>
    ldN 2 w t3 fun t23 =>
    semW Tryz.prog (lkS 120 t22 t23 true) w fun t24 w =>
    exQ t24 0 fun t25 =>
    exQ t24 1 fun t26 =>
    condW t26 (
      R (.returned t25) w
    ) (
      Drew w fun w =>
      ldN 4 w t2 fun t29 =>
      ldN 2 w t3 fun t30 =>
      ldN 4 w t2 fun t32 =>
      ldN 2 w t3 fun t33 =>
      ldN 4 w t2 fun t35 =>
      ldN 2 w t3 fun t36 =>
      callW Tryz.prog (.func (.func 79) #[] #[]) [t29, t30] w <| keepB w fun t31 w =>
      callW Tryz.prog (.func (.func 80) #[] #[]) [t32, t33] w <| keepB w fun t34 w =>
      callW Tryz.prog (.func (.func 81) #[] #[]) [t35, t36] w <| keepB w fun t37 w =>
      bsW Tryz.prog 164 3 [(0, t31), (1, t34), (2, t37)] w <| keepB w fun t38 w =>
      ln1 t38 fun t39 =>
      S55L0 t2 t3 t38 t39 R w
    )
  )

def A55 : Ann where
  live := fun
    | 0 => [7, 40]
    | _ => []
  wr := fun
    | 0 => fun i => Nat.beq i 7 || Nat.beq i 9 || (Nat.ble 40 i && Nat.ble i 52)
    | _ => fun _ => false
  sched := fun
    | 7 => (.take 0 (.take 1 (.take 3 (.take 4 (.take 6 (.take 7 (.take 11 (.eff 2 (.eff 5 (.eff 8 (.eff 9 (.take 10 .done))))))))))))
    | _ => .done

set_option maxRecDepth 100000 in
theorem ok55 : (codeOk Tryz.f55.ntmps A55 (Tryz.f55.body.getD .skip) 0 && Nat.ble 2 Tryz.f55.ntmps) = true := by kernel_rfl
set_option maxRecDepth 100000 in
theorem lift55 {t0 t1 : Value} {w : World} {R : Ending → World → Prop} (h : S55 t0 t1 w R) : Calls Tryz.prog 55 #[t0, t1] w R :=
  calls_of_cw (fn := Tryz.f55) (c := Tryz.f55.body.getD .skip) A55 mixes Tryz.func55 (by kernel_rfl) ok55
    ((by kernel_rfl : (S55 t0 t1 w R) = cw Tryz.prog A55 (Tryz.f55.body.getD .skip) 0 (bodyQ Tryz.prog Tryz.f55 R) (frOf #[t0, t1]) w).mp h)

def S57L1 (t0 t1 t3 t8 t30 t31 : Value) (R : Ending → World → Prop) (w : World) : Prop :=
  Loop2 (.int .i64 0) (.int .i64 0) w fun _ t9 t32 w next_2 =>
    binQ Tryz.prog w .lss 3 false t32 t31 fun t33 =>
    condW t33 (
      iaS 1 t30 t32 fun t34 =>
      ld1 w t34 fun t35 =>
      callW Tryz.prog (.func (.func 58) #[] #[]) [t35, t8] w fun t38 w =>
      gd t38 true (fun k => k t0 w) w fun t40 w =>
      gd t38 true (fun k => k t35 w) w fun t41 w =>
      gd t38 true (fun k => callW Tryz.prog (.func (.func 59) #[] #[]) [t41] w k) w fun t42 w =>
      gd t38 true (fun k => binQ Tryz.prog w .and 3 false t40 t42 fun v => k v w) w fun t43 w =>
      gd t38 true (fun k => binQ Tryz.prog w .eql 3 true t43 (.int .i64 0) fun v => k v w) w fun t44 w =>
      pickQ t38 t44 (.bool false) fun t45 =>
      Join (fun (k_2 : Value → World → Prop) =>
        condW t45 (
          Drew w fun w =>
          ∃ X : Nat → Prop,
          takeX X w (fun w k => k t9) fun t46 =>
          takeX X w (fun w k => ld1 w t3 k) fun t47 =>
          takeX X w (fun w k => k t0) fun t48 =>
          callW Tryz.prog (.func (.func 59) #[] #[]) [t35] w <| keepX X w fun t50 w =>
          takeX X w (fun w k => binQ Tryz.prog w .or 3 false t48 t50 k) fun t51 =>
          callW Tryz.prog t47 [t51] w <| keepX X w fun t52 w =>
          takeX X w (fun w k => binQ Tryz.prog w .add 3 false t46 t52 k) fun t53 =>
          takeX X w (fun w k => k t53) fun t9_3 =>
          k_2 t9_3 w
        ) (
          k_2 t9 w
        )
      ) fun t9_2 w =>
      binQ Tryz.prog w .add 3 true t32 (.int .i64 1) fun t54_2 =>
      next_2 t9_2 t54_2 w
    ) (
      ld1 w t1 fun t55 =>
      semW Tryz.prog (muS 137 t55 t0 t9) w fun _ w =>
      R (.returned t9) w
    )

def S57L0 (t0 t1 t2 t3 : Value) (R : Ending → World → Prop) (w : World) : Prop :=
  Loop1 (.int .i64 0) w fun _ t8 w next =>
    binQ Tryz.prog w .shl 3 true (.int .i64 1) t8 fun t22 =>
    binQ Tryz.prog w .and 3 false t0 t22 fun t23 =>
    binQ Tryz.prog w .neq 3 true t23 (.int .i64 0) fun t24 =>
    condW t24 (
      binQ Tryz.prog w .add 3 true t8 (.int .i64 1) fun t26 =>
      next t26 w
    ) (
      ld1 w t2 fun t27 =>
      ncQ t27 fun t28 =>
      fa1 t28 3 fun t29 =>
      ld1 w t29 fun t30 =>
      ln1 t30 fun t31 =>
      S57L1 t0 t1 t3 t8 t30 t31 R w
    )

def S57 (t0 t1 t2 t3 : Value) (w : World) (R : Ending → World → Prop) : Prop :=
  ld1 w t1 fun t13 =>
  semW Tryz.prog (lkS 137 t13 t0 true) w fun t15 w =>
  exQ t15 0 fun t16 =>
  exQ t15 1 fun t17 =>
  condW t17 (
    R (.returned t16) w
  ) (
    S57L0 t0 t1 t2 t3 R w
  )

def A57 : Ann where
  live := fun
    | 0 => [8]
    | 2 => [9, 32]
    | _ => []
  wr := fun
    | 0 => fun i => Nat.beq i 8 || (Nat.ble 20 i && Nat.ble i 26)
    | 2 => fun i => Nat.beq i 9 || Nat.beq i 11 || (Nat.ble 32 i && Nat.ble i 54)
    | _ => fun _ => false
  sched := fun
    | 12 => (.cls (.take 0 (.take 1 (.take 2 (.take 3 (.eff 4 (.take 5 (.eff 6 (.take 7 (.take 8 .done))))))))))
    | _ => .done

set_option maxRecDepth 100000 in
theorem ok57 : (codeOk Tryz.f57.ntmps A57 (Tryz.f57.body.getD .skip) 0 && Nat.ble 4 Tryz.f57.ntmps) = true := by kernel_rfl
set_option maxRecDepth 100000 in
theorem lift57 {t0 t1 t2 t3 : Value} {w : World} {R : Ending → World → Prop} (h : S57 t0 t1 t2 t3 w R) : Calls Tryz.prog 57 #[t0, t1, t2, t3] w R :=
  calls_of_cw (fn := Tryz.f57) (c := Tryz.f57.body.getD .skip) A57 mixes Tryz.func57 (by kernel_rfl) ok57
    ((by kernel_rfl : (S57 t0 t1 t2 t3 w R) = cw Tryz.prog A57 (Tryz.f57.body.getD .skip) 0 (bodyQ Tryz.prog Tryz.f57 R) (frOf #[t0, t1, t2, t3]) w).mp h)

def S58 (t0 t1 : Value) (w : World) (R : Ending → World → Prop) : Prop :=
  callW Tryz.prog (.func (.func 88) #[] #[]) [t0, t1] w fun t7 w =>
  binQ Tryz.prog w .geq 3 true t7 (.int .i64 0) fun t8 =>
  R (.returned t8) w

def A58 : Ann where
  live := fun _ => []
  wr := fun _ _ => false
  sched := fun _ => .done

set_option maxRecDepth 100000 in
theorem ok58 : (codeOk Tryz.f58.ntmps A58 (Tryz.f58.body.getD .skip) 0 && Nat.ble 2 Tryz.f58.ntmps) = true := by kernel_rfl
set_option maxRecDepth 100000 in
theorem lift58 {t0 t1 : Value} {w : World} {R : Ending → World → Prop} (h : S58 t0 t1 w R) : Calls Tryz.prog 58 #[t0, t1] w R :=
  calls_of_cw (fn := Tryz.f58) (c := Tryz.f58.body.getD .skip) A58 mixes Tryz.func58 (by kernel_rfl) ok58
    ((by kernel_rfl : (S58 t0 t1 w R) = cw Tryz.prog A58 (Tryz.f58.body.getD .skip) 0 (bodyQ Tryz.prog Tryz.f58 R) (frOf #[t0, t1]) w).mp h)

def S59L0 (t0 t7 : Value) (R : Ending → World → Prop) (w : World) : Prop :=
  Loop2 (.int .i64 0) (.int .i64 0) w fun _ t3 t8 w next =>
    binQ Tryz.prog w .lss 3 false t8 t7 fun t9 =>
    condW t9 (
      iaS 1 t0 t8 fun t10 =>
      ld1 w t10 fun t11 =>
      binQ Tryz.prog w .shl 3 true (.int .i64 1) t11 fun t14 =>
      binQ Tryz.prog w .or 3 false t3 t14 fun t15 =>
      binQ Tryz.prog w .add 3 true t8 (.int .i64 1) fun t16 =>
      next t15 t16 w
    ) (
      R (.returned t3) w
    )



def S59 (t0 : Value) (w : World) (R : Ending → World → Prop) : Prop :=
  ln1 t0 fun t7 =>
  S59L0 t0 t7 R w

def A59 : Ann where
  live := fun
    | 0 => [3, 8]
    | _ => []
  wr := fun
    | 0 => fun i => Nat.beq i 3 || Nat.beq i 5 || (Nat.ble 8 i && Nat.ble i 16)
    | _ => fun _ => false
  sched := fun _ => .done

set_option maxRecDepth 100000 in
theorem ok59 : (codeOk Tryz.f59.ntmps A59 (Tryz.f59.body.getD .skip) 0 && Nat.ble 1 Tryz.f59.ntmps) = true := by kernel_rfl
set_option maxRecDepth 100000 in
theorem lift59 {t0 : Value} {w : World} {R : Ending → World → Prop} (h : S59 t0 w R) : Calls Tryz.prog 59 #[t0] w R :=
  calls_of_cw (fn := Tryz.f59) (c := Tryz.f59.body.getD .skip) A59 mixes Tryz.func59 (by kernel_rfl) ok59
    ((by kernel_rfl : (S59 t0 w R) = cw Tryz.prog A59 (Tryz.f59.body.getD .skip) 0 (bodyQ Tryz.prog Tryz.f59 R) (frOf #[t0]) w).mp h)

def S11 (w : World) (R : Ending → World → Prop) : Prop :=
  bsW Tryz.prog 32 3 [(0, (.string ⟨#[35, 35, 35]⟩)), (1, (.string ⟨#[35, 35, 35]⟩)), (2, (.string ⟨#[35, 35, 46]⟩))] w fun t6 w =>
  callW Tryz.prog (.func (.func 28) #[] #[]) [t6] w fun t7 w =>
  exQ t7 0 fun t8 =>
  exQ t7 1 fun t9 =>
  bsW Tryz.prog 32 3 [(0, (.string ⟨#[35, 35, 35]⟩)), (1, (.string ⟨#[35, 35, 35]⟩)), (2, (.string ⟨#[35, 35, 46]⟩))] w fun t11 w =>
  callW Tryz.prog (.func (.func 30) #[] #[]) [] w fun t12 w =>
  callW Tryz.prog (.func (.func 29) #[] #[]) [t11, t12] w fun t13 w =>
  exQ t13 0 fun t14 =>
  exQ t13 1 fun t15 =>
  binQ Tryz.prog w .eql 26 true t9 (.int .i64 0) fun t17 =>
  gd t17 true (fun k => k t8 w) w fun t19 w =>
  gd t17 true (fun k => binQ Tryz.prog w .eql 3 true t19 (.int .i64 4) fun v => k v w) w fun t20 w =>
  pickQ t17 t20 (.bool false) fun t21 =>
  gd t21 true (fun k => k t15 w) w fun t23 w =>
  gd t21 true (fun k => binQ Tryz.prog w .eql 26 true t23 (.int .i64 0) fun v => k v w) w fun t24 w =>
  pickQ t21 t24 (.bool false) fun t25 =>
  gd t25 true (fun k => k t14 w) w fun t27 w =>
  gd t25 true (fun k => binQ Tryz.prog w .eql 3 true t27 (.int .i64 4) fun v => k v w) w fun t28 w =>
  pickQ t25 t28 (.bool false) fun t29 =>
  R (.returned t29) w

def A11 : Ann where
  live := fun _ => []
  wr := fun _ _ => false
  sched := fun _ => .done

set_option maxRecDepth 100000 in
theorem ok11 : (codeOk Tryz.f11.ntmps A11 (Tryz.f11.body.getD .skip) 0 && Nat.ble 0 Tryz.f11.ntmps) = true := by kernel_rfl
set_option maxRecDepth 100000 in
theorem lift11 {w : World} {R : Ending → World → Prop} (h : S11 w R) : Calls Tryz.prog 11 #[] w R :=
  calls_of_cw (fn := Tryz.f11) (c := Tryz.f11.body.getD .skip) A11 mixes Tryz.func11 (by kernel_rfl) ok11
    ((by kernel_rfl : (S11 w R) = cw Tryz.prog A11 (Tryz.f11.body.getD .skip) 0 (bodyQ Tryz.prog Tryz.f11 R) (frOf #[]) w).mp h)

def S37 (t0 t1 : Value) (w : World) (R : Ending → World → Prop) : Prop :=
  callW Tryz.prog (.func (.func 63) #[] #[]) [t0, t1] w fun t7 w =>
  binQ Tryz.prog w .geq 3 true t7 (.int .i64 0) fun t8 =>
  R (.returned t8) w

def A37 : Ann where
  live := fun _ => []
  wr := fun _ _ => false
  sched := fun _ => .done

set_option maxRecDepth 100000 in
theorem ok37 : (codeOk Tryz.f37.ntmps A37 (Tryz.f37.body.getD .skip) 0 && Nat.ble 2 Tryz.f37.ntmps) = true := by kernel_rfl
set_option maxRecDepth 100000 in
theorem lift37 {t0 t1 : Value} {w : World} {R : Ending → World → Prop} (h : S37 t0 t1 w R) : Calls Tryz.prog 37 #[t0, t1] w R :=
  calls_of_cw (fn := Tryz.f37) (c := Tryz.f37.body.getD .skip) A37 mixes Tryz.func37 (by kernel_rfl) ok37
    ((by kernel_rfl : (S37 t0 t1 w R) = cw Tryz.prog A37 (Tryz.f37.body.getD .skip) 0 (bodyQ Tryz.prog Tryz.f37 R) (frOf #[t0, t1]) w).mp h)

def S63L0 (t0 t1 t7 : Value) (R : Ending → World → Prop) (w : World) : Prop :=
  Loop1 (.int .i64 0) w fun _ t8 w next =>
    binQ Tryz.prog w .lss 3 false t8 t7 fun t9 =>
    condW t9 (
      iaS 1 t0 t8 fun t14 =>
      ld1 w t14 fun t15 =>
      callW Tryz.prog t1 [t15] w fun t16 w =>
      condW t16 (
        R (.returned t8) w
      ) (
        binQ Tryz.prog w .add 3 true t8 (.int .i64 1) fun t18 =>
        next t18 w
      )
    ) (
      R (.returned (.int .i64 (-1))) w
    )



def S63 (t0 t1 : Value) (w : World) (R : Ending → World → Prop) : Prop :=
  ln1 t0 fun t7 =>
  S63L0 t0 t1 t7 R w

def A63 : Ann where
  live := fun
    | 0 => [8]
    | _ => []
  wr := fun
    | 0 => fun i => (Nat.ble 4 i && Nat.ble i 5) || (Nat.ble 8 i && Nat.ble i 18)
    | _ => fun _ => false
  sched := fun _ => .done

set_option maxRecDepth 100000 in
theorem ok63 : (codeOk Tryz.f63.ntmps A63 (Tryz.f63.body.getD .skip) 0 && Nat.ble 2 Tryz.f63.ntmps) = true := by kernel_rfl
set_option maxRecDepth 100000 in
theorem lift63 {t0 t1 : Value} {w : World} {R : Ending → World → Prop} (h : S63 t0 t1 w R) : Calls Tryz.prog 63 #[t0, t1] w R :=
  calls_of_cw (fn := Tryz.f63) (c := Tryz.f63.body.getD .skip) A63 mixes Tryz.func63 (by kernel_rfl) ok63
    ((by kernel_rfl : (S63 t0 t1 w R) = cw Tryz.prog A63 (Tryz.f63.body.getD .skip) 0 (bodyQ Tryz.prog Tryz.f63 R) (frOf #[t0, t1]) w).mp h)

def S78 (t0 t1 : Value) (w : World) (R : Ending → World → Prop) : Prop :=
  lnS t0 fun t5 =>
  ld1 w t1 fun t6 =>
  iaS 1 t6 (.int .i64 0) fun t7 =>
  ld1 w t7 fun t8 =>
  lnS t8 fun t9 =>
  binQ Tryz.prog w .neq 3 false t5 t9 fun t10 =>
  gd t10 false (fun k => k t0 w) w fun t12 w =>
  gd t10 false (fun k => callW Tryz.prog (.func (.func 39) #[] #[]) [t12, (.string ⟨#[35, 46]⟩)] w k) w fun t13 w =>
  gd t10 false (fun k => binQ Tryz.prog w .neq 9 true t13 (.string ⟨#[]⟩) fun v => k v w) w fun t14 w =>
  pickQ t10 (.bool true) t14 fun t15 =>
  R (.returned t15) w

def A78 : Ann where
  live := fun _ => []
  wr := fun _ _ => false
  sched := fun _ => .done

set_option maxRecDepth 100000 in
theorem ok78 : (codeOk Tryz.f78.ntmps A78 (Tryz.f78.body.getD .skip) 0 && Nat.ble 2 Tryz.f78.ntmps) = true := by kernel_rfl
set_option maxRecDepth 100000 in
theorem lift78 {t0 t1 : Value} {w : World} {R : Ending → World → Prop} (h : S78 t0 t1 w R) : Calls Tryz.prog 78 #[t0, t1] w R :=
  calls_of_cw (fn := Tryz.f78) (c := Tryz.f78.body.getD .skip) A78 mixes Tryz.func78 (by kernel_rfl) ok78
    ((by kernel_rfl : (S78 t0 t1 w R) = cw Tryz.prog A78 (Tryz.f78.body.getD .skip) 0 (bodyQ Tryz.prog Tryz.f78 R) (frOf #[t0, t1]) w).mp h)

def S79 (t0 t1 : Value) (w : World) (R : Ending → World → Prop) : Prop :=
  boxW 122 t0 w fun t2 w =>
  boxW 126 t1 w fun t3 w =>
  boxW 126 (.agg #[(.int .i64 0), (.int .i64 0)]) w fun t4 w =>
  Drew w fun w =>
  fa1 t3 0 fun t7 =>
  ld1 w t7 fun t8 =>
  fa1 t2 0 fun t9 =>
  fa1 t9 0 fun t10 =>
  ld1 w t10 fun t11 =>
  binQ Tryz.prog w .rem 3 false t8 t11 fun t12 =>
  fa1 t3 0 fun t13 =>
  ld1 w t13 fun t14 =>
  fa1 t2 0 fun t15 =>
  fa1 t15 0 fun t16 =>
  ld1 w t16 fun t17 =>
  binQ Tryz.prog w .quo 3 false t14 t17 fun t18 =>
  fa1 t2 0 fun t19 =>
  ldN 3 w t19 fun t20 =>
  callW Tryz.prog (.func (.func 94) #[] #[]) [t20, t12, t18] w fun t23 w =>
  unQ .not t23 fun t24 =>
  gd t24 false (fun k => fa1 t3 1 fun v => k v w) w fun t26 w =>
  gd t24 false (fun k => ld1 w t26 fun v => k v w) w fun t27 w =>
  gd t24 false (fun k => binQ Tryz.prog w .and 3 true t27 (.int .i64 1) fun v => k v w) w fun t28 w =>
  gd t24 false (fun k => binQ Tryz.prog w .neq 3 true t28 (.int .i64 0) fun v => k v w) w fun t29 w =>
  pickQ t24 (.bool true) t29 fun t30 =>
  gd t30 false (fun k => k t12 w) w fun t32 w =>
  gd t30 false (fun k => binQ Tryz.prog w .add 3 true t32 (.int .i64 1) fun v => k v w) w fun t33 w =>
  gd t30 false (fun k => fa1 t2 0 fun v => k v w) w fun t34 w =>
  gd t30 false (fun k => fa1 t34 0 fun v => k v w) w fun t35 w =>
  gd t30 false (fun k => ld1 w t35 fun v => k v w) w fun t36 w =>
  gd t30 false (fun k => binQ Tryz.prog w .eql 3 false t33 t36 fun v => k v w) w fun t37 w =>
  pickQ t30 (.bool true) t37 fun t38 =>
  gd t38 false (fun k => fa1 t2 0 fun v => k v w) w fun t40 w =>
  gd t38 false (fun k => ldN 3 w t40 fun v => k v w) w fun t41 w =>
  gd t38 false (fun k => k t12 w) w fun t42 w =>
  gd t38 false (fun k => binQ Tryz.prog w .add 3 true t42 (.int .i64 1) fun v => k v w) w fun t43 w =>
  gd t38 false (fun k => k t18 w) w fun t44 w =>
  gd t38 false (fun k => callW Tryz.prog (.func (.func 94) #[] #[]) [t41, t43, t44] w k) w fun t45 w =>
  gd t38 false (fun k => unQ .not t45 fun v => k v w) w fun t46 w =>
  pickQ t38 (.bool true) t46 fun t47 =>
  gd t47 false (fun k => fa1 t3 1 fun v => k v w) w fun t49 w =>
  gd t47 false (fun k => ld1 w t49 fun v => k v w) w fun t50 w =>
  gd t47 false (fun k => binQ Tryz.prog w .and 3 true t50 (.int .i64 2) fun v => k v w) w fun t51 w =>
  gd t47 false (fun k => binQ Tryz.prog w .neq 3 true t51 (.int .i64 0) fun v => k v w) w fun t52 w =>
  pickQ t47 (.bool true) t52 fun t53 =>
  condW t53 (
    bdQ Tryz.prog 126 [] fun t54 =>
    stW Tryz.prog 126 t4 t54 w fun w =>
    ldN 2 w t4 fun r =>
    R (.returned r) w
  ) (
    fa1 t3 0 fun t55 =>
    ld1 w t55 fun t56 =>
    binQ Tryz.prog w .add 3 true t56 (.int .i64 1) fun t57 =>
    fa1 t3 1 fun t58 =>
    ld1 w t58 fun t59 =>
    binQ Tryz.prog w .shr 3 true t59 (.int .u64 1) fun t60 =>
    binQ Tryz.prog w .or 3 true t60 (.int .i64 1) fun t61 =>
    bdQ Tryz.prog 126 [(0, t57), (1, t61)] fun t62 =>
    stW Tryz.prog 126 t4 t62 w fun w =>
    ldN 2 w t4 fun r_2 =>
    R (.returned r_2) w
  )

def A79 : Ann where
  live := fun _ => []
  wr := fun _ _ => false
  sched := fun
    | 1 => (.take 0 (.take 1 (.take 2 (.take 3 (.take 4 (.take 5 (.take 6 (.take 7 (.take 8 (.take 9 (.take 10 (.take 11 (.take 12 (.take 13 .done))))))))))))))
    | _ => .done

set_option maxRecDepth 100000 in
theorem ok79 : (codeOk Tryz.f79.ntmps A79 (Tryz.f79.body.getD .skip) 0 && Nat.ble 2 Tryz.f79.ntmps) = true := by kernel_rfl
set_option maxRecDepth 100000 in
theorem lift79 {t0 t1 : Value} {w : World} {R : Ending → World → Prop} (h : S79 t0 t1 w R) : Calls Tryz.prog 79 #[t0, t1] w R :=
  calls_of_cw (fn := Tryz.f79) (c := Tryz.f79.body.getD .skip) A79 mixes Tryz.func79 (by kernel_rfl) ok79
    ((by kernel_rfl : (S79 t0 t1 w R) = cw Tryz.prog A79 (Tryz.f79.body.getD .skip) 0 (bodyQ Tryz.prog Tryz.f79 R) (frOf #[t0, t1]) w).mp h)

def S80 (t0 t1 : Value) (w : World) (R : Ending → World → Prop) : Prop :=
  boxW 122 t0 w fun t2 w =>
  boxW 126 t1 w fun t3 w =>
  boxW 126 (.agg #[(.int .i64 0), (.int .i64 0)]) w fun t4 w =>
  Drew w fun w =>
  fa1 t3 0 fun t7 =>
  ld1 w t7 fun t8 =>
  fa1 t2 0 fun t9 =>
  fa1 t9 0 fun t10 =>
  ld1 w t10 fun t11 =>
  binQ Tryz.prog w .rem 3 false t8 t11 fun t12 =>
  fa1 t3 0 fun t13 =>
  ld1 w t13 fun t14 =>
  fa1 t2 0 fun t15 =>
  fa1 t15 0 fun t16 =>
  ld1 w t16 fun t17 =>
  binQ Tryz.prog w .quo 3 false t14 t17 fun t18 =>
  fa1 t2 0 fun t19 =>
  ldN 3 w t19 fun t20 =>
  callW Tryz.prog (.func (.func 94) #[] #[]) [t20, t12, t18] w fun t23 w =>
  unQ .not t23 fun t24 =>
  gd t24 false (fun k => fa1 t3 1 fun v => k v w) w fun t26 w =>
  gd t24 false (fun k => ld1 w t26 fun v => k v w) w fun t27 w =>
  gd t24 false (fun k => binQ Tryz.prog w .and 3 true t27 (.int .i64 1) fun v => k v w) w fun t28 w =>
  gd t24 false (fun k => binQ Tryz.prog w .neq 3 true t28 (.int .i64 0) fun v => k v w) w fun t29 w =>
  pickQ t24 (.bool true) t29 fun t30 =>
  gd t30 false (fun k => fa1 t2 0 fun v => k v w) w fun t32 w =>
  gd t30 false (fun k => ldN 3 w t32 fun v => k v w) w fun t33 w =>
  gd t30 false (fun k => k t12 w) w fun t34 w =>
  gd t30 false (fun k => k t18 w) w fun t35 w =>
  gd t30 false (fun k => binQ Tryz.prog w .add 3 true t35 (.int .i64 1) fun v => k v w) w fun t36 w =>
  gd t30 false (fun k => callW Tryz.prog (.func (.func 94) #[] #[]) [t33, t34, t36] w k) w fun t37 w =>
  gd t30 false (fun k => unQ .not t37 fun v => k v w) w fun t38 w =>
  pickQ t30 (.bool true) t38 fun t39 =>
  condW t39 (
    bdQ Tryz.prog 126 [] fun t40 =>
    stW Tryz.prog 126 t4 t40 w fun w =>
    ldN 2 w t4 fun r =>
    R (.returned r) w
  ) (
    Drew w fun w =>
    fa1 t3 0 fun t41 =>
    ld1 w t41 fun t42 =>
    binQ Tryz.prog w .add 3 true t42 (.int .i64 1) fun t43 =>
    fa1 t3 1 fun t44 =>
    ld1 w t44 fun t45 =>
    binQ Tryz.prog w .shr 3 true t45 (.int .u64 1) fun t46 =>
    fa1 t2 0 fun t47 =>
    fa1 t47 0 fun t48 =>
    ld1 w t48 fun t49 =>
    binQ Tryz.prog w .sub 3 true t49 (.int .i64 1) fun t50 =>
    binQ Tryz.prog w .shl 3 true (.int .i64 1) t50 fun t51 =>
    binQ Tryz.prog w .or 3 false t46 t51 fun t52 =>
    bdQ Tryz.prog 126 [(0, t43), (1, t52)] fun t53 =>
    stW Tryz.prog 126 t4 t53 w fun w =>
    ldN 2 w t4 fun r_2 =>
    R (.returned r_2) w
  )

def A80 : Ann where
  live := fun _ => []
  wr := fun _ _ => false
  sched := fun
    | 1 => (.take 0 (.take 1 (.take 2 (.take 3 (.take 4 (.take 5 (.take 6 (.take 7 (.take 8 (.take 9 (.take 10 (.take 11 (.take 12 (.take 13 .done))))))))))))))
    | 4 => (.take 0 (.take 1 (.take 2 (.take 3 (.take 4 (.take 5 (.take 6 (.take 7 (.take 8 (.take 9 (.take 10 (.take 11 (.take 12 (.bar 13 .done))))))))))))))
    | _ => .done

set_option maxRecDepth 100000 in
theorem ok80 : (codeOk Tryz.f80.ntmps A80 (Tryz.f80.body.getD .skip) 0 && Nat.ble 2 Tryz.f80.ntmps) = true := by kernel_rfl
set_option maxRecDepth 100000 in
theorem lift80 {t0 t1 : Value} {w : World} {R : Ending → World → Prop} (h : S80 t0 t1 w R) : Calls Tryz.prog 80 #[t0, t1] w R :=
  calls_of_cw (fn := Tryz.f80) (c := Tryz.f80.body.getD .skip) A80 mixes Tryz.func80 (by kernel_rfl) ok80
    ((by kernel_rfl : (S80 t0 t1 w R) = cw Tryz.prog A80 (Tryz.f80.body.getD .skip) 0 (bodyQ Tryz.prog Tryz.f80 R) (frOf #[t0, t1]) w).mp h)

def S81 (t0 t1 : Value) (w : World) (R : Ending → World → Prop) : Prop :=
  boxW 122 t0 w fun t2 w =>
  boxW 126 t1 w fun t3 w =>
  boxW 126 (.agg #[(.int .i64 0), (.int .i64 0)]) w fun t4 w =>
  Drew w fun w =>
  fa1 t3 0 fun t7 =>
  ld1 w t7 fun t8 =>
  fa1 t2 0 fun t9 =>
  fa1 t9 0 fun t10 =>
  ld1 w t10 fun t11 =>
  binQ Tryz.prog w .rem 3 false t8 t11 fun t12 =>
  fa1 t3 0 fun t13 =>
  ld1 w t13 fun t14 =>
  fa1 t2 0 fun t15 =>
  fa1 t15 0 fun t16 =>
  ld1 w t16 fun t17 =>
  binQ Tryz.prog w .quo 3 false t14 t17 fun t18 =>
  fa1 t2 0 fun t19 =>
  ldN 3 w t19 fun t20 =>
  callW Tryz.prog (.func (.func 94) #[] #[]) [t20, t12, t18] w fun t23 w =>
  gd t23 true (fun k => fa1 t3 1 fun v => k v w) w fun t25 w =>
  gd t23 true (fun k => ld1 w t25 fun v => k v w) w fun t26 w =>
  gd t23 true (fun k => binQ Tryz.prog w .and 3 true t26 (.int .i64 1) fun v => k v w) w fun t27 w =>
  gd t23 true (fun k => binQ Tryz.prog w .eql 3 true t27 (.int .i64 0) fun v => k v w) w fun t28 w =>
  pickQ t23 t28 (.bool false) fun t29 =>
  condW t29 (
    bdQ Tryz.prog 126 [] fun t30 =>
    stW Tryz.prog 126 t4 t30 w fun w =>
    ldN 2 w t4 fun r =>
    R (.returned r) w
  ) (
    fa1 t3 0 fun t31 =>
    ld1 w t31 fun t32 =>
    binQ Tryz.prog w .add 3 true t32 (.int .i64 1) fun t33 =>
    fa1 t3 1 fun t34 =>
    ld1 w t34 fun t35 =>
    binQ Tryz.prog w .shr 3 true t35 (.int .u64 1) fun t36 =>
    bdQ Tryz.prog 126 [(0, t33), (1, t36)] fun t37 =>
    stW Tryz.prog 126 t4 t37 w fun w =>
    ldN 2 w t4 fun r_2 =>
    R (.returned r_2) w
  )

def A81 : Ann where
  live := fun _ => []
  wr := fun _ _ => false
  sched := fun
    | 1 => (.take 0 (.take 1 (.take 2 (.take 3 (.take 4 (.take 5 (.take 6 (.take 7 (.take 8 (.take 9 (.take 10 (.take 11 (.take 12 (.take 13 .done))))))))))))))
    | _ => .done

set_option maxRecDepth 100000 in
theorem ok81 : (codeOk Tryz.f81.ntmps A81 (Tryz.f81.body.getD .skip) 0 && Nat.ble 2 Tryz.f81.ntmps) = true := by kernel_rfl
set_option maxRecDepth 100000 in
theorem lift81 {t0 t1 : Value} {w : World} {R : Ending → World → Prop} (h : S81 t0 t1 w R) : Calls Tryz.prog 81 #[t0, t1] w R :=
  calls_of_cw (fn := Tryz.f81) (c := Tryz.f81.body.getD .skip) A81 mixes Tryz.func81 (by kernel_rfl) ok81
    ((by kernel_rfl : (S81 t0 t1 w R) = cw Tryz.prog A81 (Tryz.f81.body.getD .skip) 0 (bodyQ Tryz.prog Tryz.f81 R) (frOf #[t0, t1]) w).mp h)

def S83L0 (t0 t21 : Value) (R : Ending → World → Prop) (w : World) : Prop :=
  Loop1 (.int .i64 0) w fun _ t22 w next =>
    binQ Tryz.prog w .lss 3 false t22 t21 fun t23 =>
    condW t23 (
      iaS 2 t0 t22 fun t25 =>
      ldN 2 w t25 fun t26 =>
      boxW 100 (.agg #[(.int .i64 0), (.int .i64 0)]) w fun t4 w =>
      stW Tryz.prog 100 t4 t26 w fun w =>
      Drew w fun w =>
      fa1 t4 0 fun t27 =>
      ld1 w t27 fun t28 =>
      binQ Tryz.prog w .lss 3 true t28 (.int .i64 (-4)) fun t29 =>
      gdQ t29 false (fun k => fa1 t4 0 k) fun t31 =>
      gdQ t29 false (fun k => ld1 w t31 k) fun t32 =>
      gdQ t29 false (fun k => binQ Tryz.prog w .gtr 3 true t32 (.int .i64 4) k) fun t33 =>
      pickQ t29 (.bool true) t33 fun t34 =>
      gdQ t34 false (fun k => fa1 t4 1 k) fun t36 =>
      gdQ t34 false (fun k => ld1 w t36 k) fun t37 =>
      gdQ t34 false (fun k => binQ Tryz.prog w .lss 3 true t37 (.int .i64 0) k) fun t38 =>
      pickQ t34 (.bool true) t38 fun t39 =>
      gdQ t39 false (fun k => fa1 t4 1 k) fun t41 =>
      gdQ t39 false (fun k => ld1 w t41 k) fun t42 =>
      gdQ t39 false (fun k => binQ Tryz.prog w .gtr 3 true t42 (.int .i64 4) k) fun t43 =>
      pickQ t39 (.bool true) t43 fun t44 =>
      gdQ t44 false (fun k => k t22) fun t46 =>
      gdQ t44 false (fun k => binQ Tryz.prog w .gtr 3 true t46 (.int .i64 0) k) fun t47 =>
      gdQ t44 false (fun k => k t47) fun t48 =>
      gdQ t48 true (fun k => k t0) fun t49 =>
      gdQ t48 true (fun k => k t22) fun t50 =>
      gdQ t48 true (fun k => binQ Tryz.prog w .sub 3 true t50 (.int .i64 1) k) fun t51 =>
      gdQ t48 true (fun k => iaS 2 t49 t51 k) fun t52 =>
      gdQ t48 true (fun k => ldN 2 w t52 k) fun t53 =>
      gdQ t48 true (fun k => ldN 2 w t4 k) fun t54 =>
      gd t48 true (fun k => callW Tryz.prog (.func (.func 95) #[] #[]) [t53, t54] w k) w <| keepB w fun t55 w =>
      gdQ t48 true (fun k => binQ Tryz.prog w .geq 3 true t55 (.int .i64 0) k) fun t56 =>
      gdQ t44 false (fun k => pickQ t48 t56 (.bool false) k) fun t57 =>
      pickQ t44 (.bool true) t57 fun t58 =>
      condW t58 (
        R (.returned (.bool false)) w
      ) (
        binQ Tryz.prog w .add 3 true t22 (.int .i64 1) fun t59 =>
        next t59 w
      )
    ) (
      R (.returned (.bool true)) w
    )

def S83 (t0 : Value) (w : World) (R : Ending → World → Prop) : Prop :=
  ln1 t0 fun t6 =>
  binQ Tryz.prog w .lss 3 true t6 (.int .i64 1) fun t7 =>
  gd t7 false (fun k => k t0 w) w fun t9 w =>
  gd t7 false (fun k => ln1 t9 fun v => k v w) w fun t10 w =>
  gd t7 false (fun k => binQ Tryz.prog w .gtr 3 true t10 (.int .i64 5) fun v => k v w) w fun t11 w =>
  pickQ t7 (.bool true) t11 fun t12 =>
  gd t12 false (fun k => k t0 w) w fun t14 w =>
  gd t12 false (fun k => iaS 2 t14 (.int .i64 0) fun v => k v w) w fun t15 w =>
  gd t12 false (fun k => ldN 2 w t15 fun v => k v w) w fun t16 w =>
  gd t12 false (fun k => bdQ Tryz.prog 100 [] fun v => k v w) w fun t17 w =>
  gd t12 false (fun k => binQ Tryz.prog w .neq 100 false t16 t17 fun v => k v w) w fun t18 w =>
  pickQ t12 (.bool true) t18 fun t19 =>
  condW t19 (
    R (.returned (.bool false)) w
  ) (
    ln1 t0 fun t21 =>
    S83L0 t0 t21 R w
  )

def A83 : Ann where
  live := fun
    | 0 => [22]
    | _ => []
  wr := fun
    | 0 => fun i => (Nat.ble 2 i && Nat.ble i 4) || (Nat.ble 22 i && Nat.ble i 59)
    | _ => fun _ => false
  sched := fun
    | 6 => (.take 0 (.take 1 (.take 2 (.take 3 (.take 4 (.take 5 (.take 6 (.take 7 (.take 8 (.take 9 (.take 10 (.take 11 (.take 12 (.take 13 (.take 14 (.take 15 (.take 16 (.take 17 (.take 18 (.take 19 (.take 20 (.take 21 (.take 22 (.take 23 (.take 24 (.take 25 (.take 26 (.take 27 (.eff 28 (.take 29 (.take 30 (.take 31 .done))))))))))))))))))))))))))))))))
    | _ => .done

set_option maxRecDepth 100000 in
theorem ok83 : (codeOk Tryz.f83.ntmps A83 (Tryz.f83.body.getD .skip) 0 && Nat.ble 1 Tryz.f83.ntmps) = true := by kernel_rfl
set_option maxRecDepth 100000 in
theorem lift83 {t0 : Value} {w : World} {R : Ending → World → Prop} (h : S83 t0 w R) : Calls Tryz.prog 83 #[t0] w R :=
  calls_of_cw (fn := Tryz.f83) (c := Tryz.f83.body.getD .skip) A83 mixes Tryz.func83 (by kernel_rfl) ok83
    ((by kernel_rfl : (S83 t0 w R) = cw Tryz.prog A83 (Tryz.f83.body.getD .skip) 0 (bodyQ Tryz.prog Tryz.f83 R) (frOf #[t0]) w).mp h)

def S84 (t0 t1 : Value) (w : World) (R : Ending → World → Prop) : Prop :=
  callW Tryz.prog (.func (.func 96) #[] #[]) [t0, t1] w fun t7 w =>
  binQ Tryz.prog w .geq 3 true t7 (.int .i64 0) fun t8 =>
  R (.returned t8) w

def A84 : Ann where
  live := fun _ => []
  wr := fun _ _ => false
  sched := fun _ => .done

set_option maxRecDepth 100000 in
theorem ok84 : (codeOk Tryz.f84.ntmps A84 (Tryz.f84.body.getD .skip) 0 && Nat.ble 2 Tryz.f84.ntmps) = true := by kernel_rfl
set_option maxRecDepth 100000 in
theorem lift84 {t0 t1 : Value} {w : World} {R : Ending → World → Prop} (h : S84 t0 t1 w R) : Calls Tryz.prog 84 #[t0, t1] w R :=
  calls_of_cw (fn := Tryz.f84) (c := Tryz.f84.body.getD .skip) A84 mixes Tryz.func84 (by kernel_rfl) ok84
    ((by kernel_rfl : (S84 t0 t1 w R) = cw Tryz.prog A84 (Tryz.f84.body.getD .skip) 0 (bodyQ Tryz.prog Tryz.f84 R) (frOf #[t0, t1]) w).mp h)

def S85 (t0 t1 : Value) (w : World) (R : Ending → World → Prop) : Prop :=
  ld1 w t1 fun t5 =>
  callW Tryz.prog (.func (.func 86) #[] #[]) [t0, t5] w fun t6 w =>
  R (.returned t6) w

def A85 : Ann where
  live := fun _ => []
  wr := fun _ _ => false
  sched := fun _ => .done

set_option maxRecDepth 100000 in
theorem ok85 : (codeOk Tryz.f85.ntmps A85 (Tryz.f85.body.getD .skip) 0 && Nat.ble 2 Tryz.f85.ntmps) = true := by kernel_rfl
set_option maxRecDepth 100000 in
theorem lift85 {t0 t1 : Value} {w : World} {R : Ending → World → Prop} (h : S85 t0 t1 w R) : Calls Tryz.prog 85 #[t0, t1] w R :=
  calls_of_cw (fn := Tryz.f85) (c := Tryz.f85.body.getD .skip) A85 mixes Tryz.func85 (by kernel_rfl) ok85
    ((by kernel_rfl : (S85 t0 t1 w R) = cw Tryz.prog A85 (Tryz.f85.body.getD .skip) 0 (bodyQ Tryz.prog Tryz.f85 R) (frOf #[t0, t1]) w).mp h)

def S86L0 (t0 t1 t12 : Value) (R : Ending → World → Prop) (w : World) : Prop :=
  Loop1 (.int .i64 0) w fun _ t13 w next =>
    binQ Tryz.prog w .lss 3 false t13 t12 fun t14 =>
    condW t14 (
      Drew w fun w =>
      iaS 2 t0 t13 fun t18 =>
      ldN 2 w t18 fun t19 =>
      iaS 2 t1 t13 fun t22 =>
      ldN 2 w t22 fun t23 =>
      binQ Tryz.prog w .neq 100 false t19 t23 fun t24 =>
      condW t24 (
        R (.returned (.bool false)) w
      ) (
        binQ Tryz.prog w .add 3 true t13 (.int .i64 1) fun t25 =>
        next t25 w
      )
    ) (
      R (.returned (.bool true)) w
    )

def S86 (t0 t1 : Value) (w : World) (R : Ending → World → Prop) : Prop :=
  ln1 t0 fun t7 =>
  ln1 t1 fun t9 =>
  binQ Tryz.prog w .neq 3 false t7 t9 fun t10 =>
  condW t10 (
    R (.returned (.bool false)) w
  ) (
    ln1 t0 fun t12 =>
    S86L0 t0 t1 t12 R w
  )

def A86 : Ann where
  live := fun
    | 0 => [13]
    | _ => []
  wr := fun
    | 0 => fun i => (Nat.ble 4 i && Nat.ble i 5) || (Nat.ble 13 i && Nat.ble i 25)
    | _ => fun _ => false
  sched := fun
    | 6 => (.take 0 (.take 1 (.take 2 (.take 3 (.take 4 (.take 5 (.take 6 (.take 7 (.take 8 .done)))))))))
    | _ => .done

set_option maxRecDepth 100000 in
theorem ok86 : (codeOk Tryz.f86.ntmps A86 (Tryz.f86.body.getD .skip) 0 && Nat.ble 2 Tryz.f86.ntmps) = true := by kernel_rfl
set_option maxRecDepth 100000 in
theorem lift86 {t0 t1 : Value} {w : World} {R : Ending → World → Prop} (h : S86 t0 t1 w R) : Calls Tryz.prog 86 #[t0, t1] w R :=
  calls_of_cw (fn := Tryz.f86) (c := Tryz.f86.body.getD .skip) A86 mixes Tryz.func86 (by kernel_rfl) ok86
    ((by kernel_rfl : (S86 t0 t1 w R) = cw Tryz.prog A86 (Tryz.f86.body.getD .skip) 0 (bodyQ Tryz.prog Tryz.f86 R) (frOf #[t0, t1]) w).mp h)

def S87L0 (t0 t1 t5 t14 : Value) (R : Ending → World → Prop) (w : World) : Prop :=
  Loop2 (.slice none 0 0) (.int .i64 0) w fun _ t8 t15 w next =>
    binQ Tryz.prog w .lss 3 false t15 t14 fun t16 =>
    condW t16 (
      iaS 2 t1 t15 fun t17 =>
      ldN 2 w t17 fun t18 =>
      boxW 100 (.agg #[(.int .i64 0), (.int .i64 0)]) w fun t10 w =>
      stW Tryz.prog 100 t10 t18 w fun w =>
      Drew w fun w =>
      ncQ t0 fun t21 =>
      fa1 t21 1 fun t22 =>
      ld1 w t22 fun t23 =>
      fa1 t5 0 fun t24 =>
      ld1 w t24 fun t25 =>
      fa1 t10 0 fun t26 =>
      ld1 w t26 fun t27 =>
      binQ Tryz.prog w .add 3 false t25 t27 fun t28 =>
      fa1 t5 1 fun t29 =>
      ld1 w t29 fun t30 =>
      fa1 t10 1 fun t31 =>
      ld1 w t31 fun t32 =>
      binQ Tryz.prog w .add 3 false t30 t32 fun t33 =>
      bdQ Tryz.prog 100 [(0, t28), (1, t33)] fun t34 =>
      genQ Tryz.prog w (lkS 134 t23 t34 true) fun t35 =>
      exQ t35 0 fun t36 =>
      exQ t35 1 fun t37 =>
      unQ .not t37 fun t39 =>
      condW t39 (
        R (.returned (.tuple #[(.slice none 0 0), (.bool false)])) w
      ) (
        bsW Tryz.prog 34 1 [(0, t36)] w fun t42 w =>
        semW Tryz.prog (apS [34, 34] 34 [t8, t42]) w fun t43 w =>
        binQ Tryz.prog w .add 3 true t15 (.int .i64 1) fun t44 =>
        next t43 t44 w
      )
    ) (
      R (.returned (.tuple #[t8, (.bool true)])) w
    )



def S87 (t0 t1 t2 : Value) (w : World) (R : Ending → World → Prop) : Prop :=
  boxW 100 t2 w fun t5 w =>
  ln1 t1 fun t14 =>
  S87L0 t0 t1 t5 t14 R w

def A87 : Ann where
  live := fun
    | 0 => [8, 15]
    | _ => []
  wr := fun
    | 0 => fun i => (Nat.ble 6 i && Nat.ble i 8) || (Nat.ble 10 i && Nat.ble i 12) || (Nat.ble 15 i && Nat.ble i 44)
    | _ => fun _ => false
  sched := fun
    | 5 => (.take 0 (.take 1 (.take 2 (.take 3 (.take 4 (.take 5 (.take 6 (.take 7 (.take 8 (.take 9 (.take 10 (.take 11 (.take 12 (.take 13 (.take 14 (.take 15 (.take 16 (.take 17 (.take 18 (.take 19 (.take 20 .done)))))))))))))))))))))
    | _ => .done

set_option maxRecDepth 100000 in
theorem ok87 : (codeOk Tryz.f87.ntmps A87 (Tryz.f87.body.getD .skip) 0 && Nat.ble 3 Tryz.f87.ntmps) = true := by kernel_rfl
set_option maxRecDepth 100000 in
theorem lift87 {t0 t1 t2 : Value} {w : World} {R : Ending → World → Prop} (h : S87 t0 t1 t2 w R) : Calls Tryz.prog 87 #[t0, t1, t2] w R :=
  calls_of_cw (fn := Tryz.f87) (c := Tryz.f87.body.getD .skip) A87 mixes Tryz.func87 (by kernel_rfl) ok87
    ((by kernel_rfl : (S87 t0 t1 t2 w R) = cw Tryz.prog A87 (Tryz.f87.body.getD .skip) 0 (bodyQ Tryz.prog Tryz.f87 R) (frOf #[t0, t1, t2]) w).mp h)

def S88L0 (t0 t1 t7 : Value) (R : Ending → World → Prop) (w : World) : Prop :=
  Loop1 (.int .i64 0) w fun _ t8 w next =>
    binQ Tryz.prog w .lss 3 false t8 t7 fun t9 =>
    condW t9 (
      iaS 1 t0 t8 fun t14 =>
      ld1 w t14 fun t15 =>
      binQ Tryz.prog w .eql 3 false t1 t15 fun t16 =>
      condW t16 (
        R (.returned t8) w
      ) (
        binQ Tryz.prog w .add 3 true t8 (.int .i64 1) fun t18 =>
        next t18 w
      )
    ) (
      R (.returned (.int .i64 (-1))) w
    )



def S88 (t0 t1 : Value) (w : World) (R : Ending → World → Prop) : Prop :=
  ln1 t0 fun t7 =>
  S88L0 t0 t1 t7 R w

def A88 : Ann where
  live := fun
    | 0 => [8]
    | _ => []
  wr := fun
    | 0 => fun i => (Nat.ble 4 i && Nat.ble i 5) || (Nat.ble 8 i && Nat.ble i 18)
    | _ => fun _ => false
  sched := fun _ => .done

set_option maxRecDepth 100000 in
theorem ok88 : (codeOk Tryz.f88.ntmps A88 (Tryz.f88.body.getD .skip) 0 && Nat.ble 2 Tryz.f88.ntmps) = true := by kernel_rfl
set_option maxRecDepth 100000 in
theorem lift88 {t0 t1 : Value} {w : World} {R : Ending → World → Prop} (h : S88 t0 t1 w R) : Calls Tryz.prog 88 #[t0, t1] w R :=
  calls_of_cw (fn := Tryz.f88) (c := Tryz.f88.body.getD .skip) A88 mixes Tryz.func88 (by kernel_rfl) ok88
    ((by kernel_rfl : (S88 t0 t1 w R) = cw Tryz.prog A88 (Tryz.f88.body.getD .skip) 0 (bodyQ Tryz.prog Tryz.f88 R) (frOf #[t0, t1]) w).mp h)

def S94 (t0 t1 t2 : Value) (w : World) (R : Ending → World → Prop) : Prop :=
  boxW 117 t0 w fun t3 w =>
  binQ Tryz.prog w .geq 3 true t1 (.int .i64 0) fun t8 =>
  gd t8 true (fun k => k t2 w) w fun t10 w =>
  gd t8 true (fun k => binQ Tryz.prog w .geq 3 true t10 (.int .i64 0) fun v => k v w) w fun t11 w =>
  pickQ t8 t11 (.bool false) fun t12 =>
  gd t12 true (fun k => k t1 w) w fun t14 w =>
  gd t12 true (fun k => fa1 t3 0 fun v => k v w) w fun t15 w =>
  gd t12 true (fun k => ld1 w t15 fun v => k v w) w fun t16 w =>
  gd t12 true (fun k => binQ Tryz.prog w .lss 3 false t14 t16 fun v => k v w) w fun t17 w =>
  pickQ t12 t17 (.bool false) fun t18 =>
  gd t18 true (fun k => k t2 w) w fun t20 w =>
  gd t18 true (fun k => fa1 t3 1 fun v => k v w) w fun t21 w =>
  gd t18 true (fun k => ld1 w t21 fun v => k v w) w fun t22 w =>
  gd t18 true (fun k => binQ Tryz.prog w .lss 3 false t20 t22 fun v => k v w) w fun t23 w =>
  pickQ t18 t23 (.bool false) fun t24 =>
  gd t24 true (fun k => fa1 t3 2 fun v => k v w) w fun t26 w =>
  gd t24 true (fun k => ld1 w t26 fun v => k v w) w fun t27 w =>
  gd t24 true (fun k => k t2 w) w fun t28 w =>
  gd t24 true (fun k => iaS 1 t27 t28 fun v => k v w) w fun t29 w =>
  gd t24 true (fun k => ld1 w t29 fun v => k v w) w fun t30 w =>
  gd t24 true (fun k => k t1 w) w fun t31 w =>
  gd t24 true (fun k => semW Tryz.prog (ixS 9 t30 t31) w k) w fun t32 w =>
  gd t24 true (fun k => binQ Tryz.prog w .eql 5 true t32 (.int .u8 35) fun v => k v w) w fun t33 w =>
  pickQ t24 t33 (.bool false) fun t34 =>
  R (.returned t34) w

def A94 : Ann where
  live := fun _ => []
  wr := fun _ _ => false
  sched := fun _ => .done

set_option maxRecDepth 100000 in
theorem ok94 : (codeOk Tryz.f94.ntmps A94 (Tryz.f94.body.getD .skip) 0 && Nat.ble 3 Tryz.f94.ntmps) = true := by kernel_rfl
set_option maxRecDepth 100000 in
theorem lift94 {t0 t1 t2 : Value} {w : World} {R : Ending → World → Prop} (h : S94 t0 t1 t2 w R) : Calls Tryz.prog 94 #[t0, t1, t2] w R :=
  calls_of_cw (fn := Tryz.f94) (c := Tryz.f94.body.getD .skip) A94 mixes Tryz.func94 (by kernel_rfl) ok94
    ((by kernel_rfl : (S94 t0 t1 t2 w R) = cw Tryz.prog A94 (Tryz.f94.body.getD .skip) 0 (bodyQ Tryz.prog Tryz.f94 R) (frOf #[t0, t1, t2]) w).mp h)

def S95 (t0 t1 : Value) (w : World) (R : Ending → World → Prop) : Prop :=
  boxW 100 t0 w fun t2 w =>
  boxW 100 t1 w fun t3 w =>
  Drew w fun w =>
  fa1 t2 1 fun t5 =>
  ld1 w t5 fun t6 =>
  fa1 t3 1 fun t7 =>
  ld1 w t7 fun t8 =>
  fa1 t2 0 fun t10 =>
  ld1 w t10 fun t11 =>
  fa1 t3 0 fun t12 =>
  ld1 w t12 fun t13 =>
  callW Tryz.prog (.func (.func 101) #[] #[]) [t6, t8] w <| keepB w fun t9 w =>
  callW Tryz.prog (.func (.func 101) #[] #[]) [t11, t13] w fun t14 w =>
  bsW Tryz.prog 34 2 [(0, t9), (1, t14)] w fun t15 w =>
  callW Tryz.prog (.func (.func 100) #[] #[]) [t15] w fun t16 w =>
  R (.returned t16) w

def A95 : Ann where
  live := fun _ => []
  wr := fun _ _ => false
  sched := fun
    | 1 => (.take 0 (.take 1 (.take 2 (.take 3 (.take 5 (.take 6 (.take 7 (.take 8 (.eff 4 (.bar 9 (.bar 10 (.bar 11 (.take 12 .done)))))))))))))
    | _ => .done

set_option maxRecDepth 100000 in
theorem ok95 : (codeOk Tryz.f95.ntmps A95 (Tryz.f95.body.getD .skip) 0 && Nat.ble 2 Tryz.f95.ntmps) = true := by kernel_rfl
set_option maxRecDepth 100000 in
theorem lift95 {t0 t1 : Value} {w : World} {R : Ending → World → Prop} (h : S95 t0 t1 w R) : Calls Tryz.prog 95 #[t0, t1] w R :=
  calls_of_cw (fn := Tryz.f95) (c := Tryz.f95.body.getD .skip) A95 mixes Tryz.func95 (by kernel_rfl) ok95
    ((by kernel_rfl : (S95 t0 t1 w R) = cw Tryz.prog A95 (Tryz.f95.body.getD .skip) 0 (bodyQ Tryz.prog Tryz.f95 R) (frOf #[t0, t1]) w).mp h)

def S96L0 (t0 t1 t7 : Value) (R : Ending → World → Prop) (w : World) : Prop :=
  Loop1 (.int .i64 0) w fun _ t8 w next =>
    binQ Tryz.prog w .lss 3 false t8 t7 fun t9 =>
    condW t9 (
      iaS 1 t0 t8 fun t14 =>
      ld1 w t14 fun t15 =>
      callW Tryz.prog t1 [t15] w fun t16 w =>
      condW t16 (
        R (.returned t8) w
      ) (
        binQ Tryz.prog w .add 3 true t8 (.int .i64 1) fun t18 =>
        next t18 w
      )
    ) (
      R (.returned (.int .i64 (-1))) w
    )



def S96 (t0 t1 : Value) (w : World) (R : Ending → World → Prop) : Prop :=
  ln1 t0 fun t7 =>
  S96L0 t0 t1 t7 R w

def A96 : Ann where
  live := fun
    | 0 => [8]
    | _ => []
  wr := fun
    | 0 => fun i => (Nat.ble 4 i && Nat.ble i 5) || (Nat.ble 8 i && Nat.ble i 18)
    | _ => fun _ => false
  sched := fun _ => .done

set_option maxRecDepth 100000 in
theorem ok96 : (codeOk Tryz.f96.ntmps A96 (Tryz.f96.body.getD .skip) 0 && Nat.ble 2 Tryz.f96.ntmps) = true := by kernel_rfl
set_option maxRecDepth 100000 in
theorem lift96 {t0 t1 : Value} {w : World} {R : Ending → World → Prop} (h : S96 t0 t1 w R) : Calls Tryz.prog 96 #[t0, t1] w R :=
  calls_of_cw (fn := Tryz.f96) (c := Tryz.f96.body.getD .skip) A96 mixes Tryz.func96 (by kernel_rfl) ok96
    ((by kernel_rfl : (S96 t0 t1 w R) = cw Tryz.prog A96 (Tryz.f96.body.getD .skip) 0 (bodyQ Tryz.prog Tryz.f96 R) (frOf #[t0, t1]) w).mp h)

def S100L0 (t0 t7 : Value) (R : Ending → World → Prop) (w : World) : Prop :=
  Loop1 (.int .i64 0) w fun _ t8 w next =>
    binQ Tryz.prog w .lss 3 false t8 t7 fun t9 =>
    condW t9 (
      iaS 1 t0 t8 fun t10 =>
      ld1 w t10 fun t11 =>
      binQ Tryz.prog w .neq 3 false t11 (.int .i64 0) fun t14 =>
      condW t14 (
        R (.returned t11) w
      ) (
        binQ Tryz.prog w .add 3 true t8 (.int .i64 1) fun t16 =>
        next t16 w
      )
    ) (
      R (.returned (.int .i64 0)) w
    )



def S100 (t0 : Value) (w : World) (R : Ending → World → Prop) : Prop :=
  ln1 t0 fun t7 =>
  S100L0 t0 t7 R w

def A100 : Ann where
  live := fun
    | 0 => [8]
    | _ => []
  wr := fun
    | 0 => fun i => Nat.beq i 2 || Nat.beq i 5 || (Nat.ble 8 i && Nat.ble i 16)
    | _ => fun _ => false
  sched := fun _ => .done

set_option maxRecDepth 100000 in
theorem ok100 : (codeOk Tryz.f100.ntmps A100 (Tryz.f100.body.getD .skip) 0 && Nat.ble 1 Tryz.f100.ntmps) = true := by kernel_rfl
set_option maxRecDepth 100000 in
theorem lift100 {t0 : Value} {w : World} {R : Ending → World → Prop} (h : S100 t0 w R) : Calls Tryz.prog 100 #[t0] w R :=
  calls_of_cw (fn := Tryz.f100) (c := Tryz.f100.body.getD .skip) A100 mixes Tryz.func100 (by kernel_rfl) ok100
    ((by kernel_rfl : (S100 t0 w R) = cw Tryz.prog A100 (Tryz.f100.body.getD .skip) 0 (bodyQ Tryz.prog Tryz.f100 R) (frOf #[t0]) w).mp h)

def S101 (t0 t1 : Value) (w : World) (R : Ending → World → Prop) : Prop :=
  callW Tryz.prog (.func (.func 106) #[] #[]) [t0] w fun t8 w =>
  callW Tryz.prog (.func (.func 106) #[] #[]) [t1] w fun t10 w =>
  condW t8 (
    condW t10 (
      R (.returned (.int .i64 0)) w
    ) (
      R (.returned (.int .i64 (-1))) w
    )
  ) (
    condW t10 (
      R (.returned (.int .i64 1)) w
    ) (
      binQ Tryz.prog w .lss 3 false t0 t1 fun t16 =>
      condW t16 (
        R (.returned (.int .i64 (-1))) w
      ) (
        binQ Tryz.prog w .gtr 3 false t0 t1 fun t19 =>
        condW t19 (
          R (.returned (.int .i64 1)) w
        ) (
          R (.returned (.int .i64 0)) w
        )
      )
    )
  )

def A101 : Ann where
  live := fun _ => []
  wr := fun _ _ => false
  sched := fun _ => .done

set_option maxRecDepth 100000 in
theorem ok101 : (codeOk Tryz.f101.ntmps A101 (Tryz.f101.body.getD .skip) 0 && Nat.ble 2 Tryz.f101.ntmps) = true := by kernel_rfl
set_option maxRecDepth 100000 in
theorem lift101 {t0 t1 : Value} {w : World} {R : Ending → World → Prop} (h : S101 t0 t1 w R) : Calls Tryz.prog 101 #[t0, t1] w R :=
  calls_of_cw (fn := Tryz.f101) (c := Tryz.f101.body.getD .skip) A101 mixes Tryz.func101 (by kernel_rfl) ok101
    ((by kernel_rfl : (S101 t0 t1 w R) = cw Tryz.prog A101 (Tryz.f101.body.getD .skip) 0 (bodyQ Tryz.prog Tryz.f101 R) (frOf #[t0, t1]) w).mp h)

def S106 (t0 : Value) (w : World) (R : Ending → World → Prop) : Prop :=
  binQ Tryz.prog w .neq 3 false t0 t0 fun t5 =>
  R (.returned t5) w

def A106 : Ann where
  live := fun _ => []
  wr := fun _ _ => false
  sched := fun _ => .done

set_option maxRecDepth 100000 in
theorem ok106 : (codeOk Tryz.f106.ntmps A106 (Tryz.f106.body.getD .skip) 0 && Nat.ble 1 Tryz.f106.ntmps) = true := by kernel_rfl
set_option maxRecDepth 100000 in
theorem lift106 {t0 : Value} {w : World} {R : Ending → World → Prop} (h : S106 t0 w R) : Calls Tryz.prog 106 #[t0] w R :=
  calls_of_cw (fn := Tryz.f106) (c := Tryz.f106.body.getD .skip) A106 mixes Tryz.func106 (by kernel_rfl) ok106
    ((by kernel_rfl : (S106 t0 w R) = cw Tryz.prog A106 (Tryz.f106.body.getD .skip) 0 (bodyQ Tryz.prog Tryz.f106 R) (frOf #[t0]) w).mp h)

theorem fok28 : fnOk Tryz.prog 28 = true := by kernel_rfl
theorem fok29 : fnOk Tryz.prog 29 = true := by kernel_rfl
theorem fok30 : fnOk Tryz.prog 30 = true := by kernel_rfl
theorem fok53 : fnOk Tryz.prog 53 = true := by kernel_rfl
theorem fok54 : fnOk Tryz.prog 54 = true := by kernel_rfl
theorem fok55 : fnOk Tryz.prog 55 = true := by kernel_rfl
theorem fok57 : fnOk Tryz.prog 57 = true := by kernel_rfl
theorem fok58 : fnOk Tryz.prog 58 = true := by kernel_rfl
theorem fok59 : fnOk Tryz.prog 59 = true := by kernel_rfl
theorem fok11 : fnOk Tryz.prog 11 = true := by kernel_rfl
theorem fok37 : fnOk Tryz.prog 37 = true := by kernel_rfl
theorem fok63 : fnOk Tryz.prog 63 = true := by kernel_rfl
theorem fok78 : fnOk Tryz.prog 78 = true := by kernel_rfl
theorem fok79 : fnOk Tryz.prog 79 = true := by kernel_rfl
theorem fok80 : fnOk Tryz.prog 80 = true := by kernel_rfl
theorem fok81 : fnOk Tryz.prog 81 = true := by kernel_rfl
theorem fok83 : fnOk Tryz.prog 83 = true := by kernel_rfl
theorem fok84 : fnOk Tryz.prog 84 = true := by kernel_rfl
theorem fok85 : fnOk Tryz.prog 85 = true := by kernel_rfl
theorem fok86 : fnOk Tryz.prog 86 = true := by kernel_rfl
theorem fok87 : fnOk Tryz.prog 87 = true := by kernel_rfl
theorem fok88 : fnOk Tryz.prog 88 = true := by kernel_rfl
theorem fok94 : fnOk Tryz.prog 94 = true := by kernel_rfl
theorem fok95 : fnOk Tryz.prog 95 = true := by kernel_rfl
theorem fok96 : fnOk Tryz.prog 96 = true := by kernel_rfl
theorem fok100 : fnOk Tryz.prog 100 = true := by kernel_rfl
theorem fok101 : fnOk Tryz.prog 101 = true := by kernel_rfl
theorem fok106 : fnOk Tryz.prog 106 = true := by kernel_rfl
end Go.Proofs.YtfmppkplmfbjpaaGreatDoor

/- Strings: what memory holds of them, bytes; the contract of strings.Trim, by the shelf; few. -/
namespace Go.Proofs.YtfmppkplmfbjpaaGreatDoor
open Go.Lf Go.RowKit Go.Shelf Go.Proofs

def trimR_ren : Go.Shelf.Ren := ⟨fun | 160 => 39 | 232 => 65 | 231 => 64 | 227 => 66 | 234 => 68 | 233 => 67 | 236 => 70 | 235 => 69 | 228 => 89 | 271 => 92 | 151 => 91 | 197 => 90 | 120 => 99 | 152 => 98 | 260 => 97 | 137 => 102 | 119 => 103 | 224 => 104 | 225 => 105 | 217 => 107 | 266 => 108 | n => n, fun | 9 => 9 | 4 => 4 | 3 => 3 | 5 => 5 | 117 => 149 | 116 => 148 | 0 => 0 | 124 => 152 | 21 => 21 | 105 => 176 | 46 => 102 | 119 => 184 | 139 => 187 | 138 => 186 | n => n, fun | 3 => 1 | 4 => 2 | n => n⟩
set_option maxRecDepth 100000 in
theorem trimR : Go.Proofs.Lays.n160 Tryz.prog trimR_ren :=
  { mixed := by kernel_rfl,
    f119 := Tryz.func103.trans (congrArg some (by kernel_rfl)),
    f120 := Tryz.func99.trans (congrArg some (by kernel_rfl)),
    f137 := Tryz.func102.trans (congrArg some (by kernel_rfl)),
    f151 := Tryz.func91.trans (congrArg some (by kernel_rfl)),
    f152 := Tryz.func98.trans (congrArg some (by kernel_rfl)),
    f160 := Tryz.func39.trans (congrArg some (by kernel_rfl)),
    f197 := Tryz.func90.trans (congrArg some (by kernel_rfl)),
    f217 := Tryz.func107.trans (congrArg some (by kernel_rfl)),
    f224 := Tryz.func104.trans (congrArg some (by kernel_rfl)),
    f225 := Tryz.func105.trans (congrArg some (by kernel_rfl)),
    f227 := Tryz.func66.trans (congrArg some (by kernel_rfl)),
    f228 := Tryz.func89.trans (congrArg some (by kernel_rfl)),
    f231 := Tryz.func64.trans (congrArg some (by kernel_rfl)),
    f232 := Tryz.func65.trans (congrArg some (by kernel_rfl)),
    f233 := Tryz.func67.trans (congrArg some (by kernel_rfl)),
    f234 := Tryz.func68.trans (congrArg some (by kernel_rfl)),
    f235 := Tryz.func69.trans (congrArg some (by kernel_rfl)),
    f236 := Tryz.func70.trans (congrArg some (by kernel_rfl)),
    f260 := Tryz.func97.trans (congrArg some (by kernel_rfl)),
    f266 := Tryz.func108.trans (congrArg some (by kernel_rfl)),
    f271 := Tryz.func92.trans (congrArg some (by kernel_rfl)),
    t0 := Tryz.underlying0,
    a0 := Tryz.isAgg0,
    z0 := Tryz.sizeOf0,
    v0 := Tryz.zeroValue0,
    t3 := Tryz.underlying3,
    a3 := Tryz.isAgg3,
    z3 := Tryz.sizeOf3,
    v3 := Tryz.zeroValue3,
    t4 := Tryz.underlying4,
    a4 := Tryz.isAgg4,
    z4 := Tryz.sizeOf4,
    v4 := Tryz.zeroValue4,
    t5 := Tryz.underlying5,
    a5 := Tryz.isAgg5,
    z5 := Tryz.sizeOf5,
    v5 := Tryz.zeroValue5,
    t9 := Tryz.underlying9,
    a9 := Tryz.isAgg9,
    z9 := Tryz.sizeOf9,
    v9 := Tryz.zeroValue9,
    t21 := Tryz.underlying21,
    a21 := Tryz.isAgg21,
    z21 := Tryz.sizeOf21,
    v21 := Tryz.zeroValue21,
    t46 := Tryz.underlying102,
    a46 := Tryz.isAgg102,
    z46 := Tryz.sizeOf102,
    v46 := Tryz.zeroValue102,
    t105 := Tryz.underlying176,
    a105 := Tryz.isAgg176,
    z105 := Tryz.sizeOf176,
    v105 := Tryz.zeroValue176,
    t116 := Tryz.underlying148,
    a116 := Tryz.isAgg148,
    z116 := Tryz.sizeOf148,
    t117 := Tryz.underlying149,
    a117 := Tryz.isAgg149,
    z117 := Tryz.sizeOf149,
    v117 := Tryz.zeroValue149,
    t119 := Tryz.underlying184,
    a119 := Tryz.isAgg184,
    z119 := Tryz.sizeOf184,
    t124 := Tryz.underlying152,
    a124 := Tryz.isAgg152,
    z124 := Tryz.sizeOf152,
    v124 := Tryz.zeroValue152,
    t138 := Tryz.underlying186,
    a138 := Tryz.isAgg186,
    z138 := Tryz.sizeOf186,
    v138 := Tryz.zeroValue186,
    t139 := Tryz.underlying187,
    a139 := Tryz.isAgg187,
    z139 := Tryz.sizeOf187,
    v139 := Tryz.zeroValue187,
    g3 := by kernel_rfl,
    g4 := by kernel_rfl }

def SameW (a b : World) : Prop := a = b
def sC (s : ByteArray) : List Value := [.string s]
theorem sC_len (s : ByteArray) : (sC s).length = 1 := rfl
abbrev RdB (w : World) (v : Value) (l : List ByteArray) : Prop := Rd 1 sC w v l
theorem str_at {w : World} {v : Value} {l : List ByteArray} (h : RdB w v l) {i : Nat} (hi : i < l.length) (K : Value → Prop) : (iaS 1 v (.int .i64 i) fun p => ld1 w p K) = K (.string (l.getD i ⟨#[]⟩)) := by
  obtain ⟨b, off, cap, e, _, hc⟩ := h.at (List.getElem?_eq_getElem hi)
  have hii : (i : Int).toNat = i := by omega
  have h0 := hc 0 _ rfl
  rw [Nat.mul_one, Nat.add_zero] at h0
  rw [e, r_iaS _ _ _ _ _ _ _ (by omega) (by omega), hii, Nat.mul_one, r_ld h0, getD_lt _ _ _ hi]
theorem r_lnS (s : ByteArray) (K : Value → Prop) : lnS (.string s) K = K (.int .i64 s.size) := rfl
theorem und9 : Tryz.prog.underlying 9 = some .string := by kernel_rfl

/-- Are all bytes of a string of the cutset? -/
def plainB (s : ByteArray) : Bool := s.data.toList.all fun b => b == 35 || b == 46
theorem dropWhile_all {p : UInt8 → Bool} : ∀ {l : List UInt8}, l.dropWhile p = [] ↔ l.all p = true
  | [] => by simp
  | a :: l => by
    by_cases h : p a = true
    · rw [List.dropWhile_cons_of_pos h, List.all_cons, h, Bool.true_and]; exact dropWhile_all
    · have h : p a = false := by simpa using h
      rw [List.dropWhile_cons_of_neg (by simp [h]), List.all_cons, h]; simp
theorem trim_plain (s : ByteArray) : Lib.trimS s.data.toList [35, 46] = [] ↔ plainB s = true := by
  have hc : ∀ b : UInt8, [35, 46].contains b = (b == 35 || b == 46) := fun b => by simp [List.contains, List.elem]; cases (b == 35) <;> cases (b == 46) <;> rfl
  unfold Lib.trimS Lib.trimLeftS Lib.trimRightS plainB
  rw [dropWhile_all]
  constructor
  · intro h
    have h1 : (s.data.toList.reverse.dropWhile fun x => [35, 46].contains x) = [] := by
      refine Classical.byContradiction fun hne => ?_
      obtain ⟨a, t, e⟩ : ∃ a t, (s.data.toList.reverse.dropWhile fun x => [35, 46].contains x) = a :: t := by
        cases q : (s.data.toList.reverse.dropWhile fun x => [35, 46].contains x) with
        | nil => exact absurd q hne
        | cons a t => exact ⟨a, t, rfl⟩
      have hn : [35, 46].contains a = false := by
        have := List.head?_dropWhile_not (fun x => [35, 46].contains x) s.data.toList.reverse
        rw [e] at this
        simpa using this
      have := List.all_eq_true.1 h a (by rw [e]; simp)
      rw [hn] at this; cases this
    rw [dropWhile_all, List.all_reverse] at h1
    rw [List.all_eq_true] at h1 ⊢
    intro b hb
    rw [← hc]; exact h1 b hb
  · intro h
    have h1 : (s.data.toList.reverse.dropWhile fun x => [35, 46].contains x) = [] := by
      rw [dropWhile_all, List.all_reverse, List.all_eq_true]
      intro b hb
      rw [hc]; exact List.all_eq_true.1 h b hb
    rw [h1]; rfl

set_option maxRecDepth 100000 in
theorem trim_calls (s : ByteArray) (w : World) (hs : s.size ≤ 9223372036854775807) : Calls Tryz.prog 39 #[.string s, .string ⟨#[35, 46]⟩] w fun e w' => Kp w w' ∧ ∃ r : ByteArray, e = .returned (.string r) ∧ (r = ⟨#[]⟩ ↔ plainB s = true) := by
  have h := Any.strings_Trim_laid trimR (by kernel_rfl) s ⟨#[35, 46]⟩ w hs (by decide) (ascii_of_all (by decide))
  refine h.mono ?_
  rintro e w' ⟨rfl, hB⟩
  refine ⟨hB, _, rfl, ?_⟩
  rw [← trim_plain]
  constructor
  · intro e
    have := congrArg (fun b : ByteArray => b.data.toList) e
    simpa using this
  · intro e
    show (⟨(Lib.trimS s.data.toList [35, 46]).toArray⟩ : ByteArray) = _
    rw [e]


end Go.Proofs.YtfmppkplmfbjpaaGreatDoor
