/- Texts of my own, merged by program: Sc Wb. -/
import Derived.Test.YtfmppkplmfbjpaaGreatDoorM03
import Derived.Test.YtfmppkplmfbjpaaGreatDoorM21
import Derived.Test.YtfmppkplmfbjpaaGreatDoorM06
import Derived.Laws.StructEq
set_option linter.all false
/- Lifted texts, printed by program (gen.py): what each function's code asks. The ties are by the kernel. -/
namespace Go.Proofs.YtfmppkplmfbjpaaGreatDoor
open Go.Lf Go.RowKit

def S5L1 (t0 t6_2 t7 : Value) (next : Value → Value → Value → World → Prop) (k_2 : Value → Value → World → Prop) (w : World) : Prop :=
  Loop2 (.int .i64 1) t6_2 w fun _ t5_3 t6_3 w next_2 =>
    binQ Tryz.prog w .leq 3 true t5_3 (.int .i64 4) fun t16 =>
    condW t16 (
      binQ Tryz.prog w .quo 3 false t7 t5_3 fun t21 =>
      binQ Tryz.prog w .mul 3 false t21 t5_3 fun t24 =>
      binQ Tryz.prog w .eql 3 false t24 t7 fun t26 =>
      gd t26 true (fun k => k t21 w) w fun t28 w =>
      gd t26 true (fun k => callW Tryz.prog (.func (.func 13) #[] #[]) [t28] w k) w fun t29 w =>
      pickQ t26 t29 (.bool false) fun t30 =>
      gd t30 true (fun k => k t0 w) w fun t32 w =>
      gd t30 true (fun k => k t5_3 w) w fun t33 w =>
      gd t30 true (fun k => k t21 w) w fun t34 w =>
      gd t30 true (fun k => callW Tryz.prog (.func (.func 14) #[] #[]) [t32, t33, t34] w k) w fun t35 w =>
      gd t30 true (fun k => binQ Tryz.prog w .gtr 3 true t35 (.int .i64 0) fun v => k v w) w fun t36 w =>
      pickQ t30 t36 (.bool false) fun t37 =>
      condW t37 (
        k_2 t5_3 t21 w
      ) (
        binQ Tryz.prog w .add 3 true t5_3 (.int .i64 1) fun t18 =>
        next_2 t18 t21 w
      )
    ) (
      binQ Tryz.prog w .add 3 true t7 (.int .i64 1) fun t14 =>
      next t5_3 t6_3 t14 w
    )

def S5L0 (t0 : Value) (k_2 : Value → Value → World → Prop) (w : World) : Prop :=
  Loop3 (.int .i64 0) (.int .i64 0) (.int .i64 1) w fun _ t5_2 t6_2 t7 w next =>
    binQ Tryz.prog w .leq 3 true t7 (.int .i64 16) fun t12 =>
    condW t12 (
      S5L1 t0 t6_2 t7 next k_2 w
    ) (
      k_2 t5_2 t6_2 w
    )

def S5 (t0 : Value) (w : World) (R : Ending → World → Prop) : Prop :=
  callW Tryz.prog (.func (.func 12) #[] #[]) [t0] w fun t9 w =>
  unQ .not t9 fun t10 =>
  condW t10 (
    R (.returned (.tuple #[(.int .i64 0), (.int .i64 0), (.int .i64 2)])) w
  ) (
    Join (fun (k_2 : Value → Value → World → Prop) =>
      S5L0 t0 k_2 w
    ) fun t5 t6 w =>
    binQ Tryz.prog w .gtr 3 true t5 (.int .i64 4) fun t39_2 =>
    condW t39_2 (
      R (.returned (.tuple #[(.int .i64 0), (.int .i64 0), (.int .i64 10)])) w
    ) (
      R (.returned (.tuple #[t5, t6, (.int .i64 0)])) w
    )
  )

def A5 : Ann where
  live := fun
    | 0 => [5, 6, 7]
    | 2 => [5, 6]
    | _ => []
  wr := fun
    | 0 => fun i => (Nat.ble 5 i && Nat.ble i 7) || (Nat.ble 11 i && Nat.ble i 37)
    | 2 => fun i => (Nat.ble 5 i && Nat.ble i 6) || (Nat.ble 15 i && Nat.ble i 37)
    | _ => fun _ => false
  sched := fun _ => .done

set_option maxRecDepth 100000 in
theorem ok5 : (codeOkS Tryz.f5.ntmps A5 (Tryz.f5.body.getD .skip) 0 && Nat.ble 1 Tryz.f5.ntmps) = true := by kernel_rfl
set_option maxRecDepth 100000 in
theorem lift5 {t0 : Value} {w : World} {R : Ending → World → Prop} (h : S5 t0 w R) : Calls Tryz.prog 5 #[t0] w R :=
  calls_of_cwS (fn := Tryz.f5) (c := Tryz.f5.body.getD .skip) A5 mixes Tryz.func5 (by kernel_rfl) ok5
    ((by kernel_rfl : (S5 t0 w R) = cwS Tryz.prog A5 (Tryz.f5.body.getD .skip) 0 (bodyQ Tryz.prog Tryz.f5 R) (frOf #[t0]) w).mp h)

def S9 (t0 t1 t2 : Value) (w : World) (R : Ending → World → Prop) : Prop :=
  callW Tryz.prog (.func (.func 22) #[] #[]) [t0, t1, t2] w fun t15 w =>
  binQ Tryz.prog w .neq 26 true t15 (.int .i64 0) fun t17 =>
  condW t17 (
    R (.returned (.tuple #[(.int .i64 0), t15])) w
  ) (
    callW Tryz.prog (.func (.func 24) #[] #[]) [t0, t1] w fun t21 w =>
    bsW Tryz.prog 34 1 [(0, (.int .i64 1))] w fun t22 w =>
    callW Tryz.prog (.func (.func 25) #[] #[]) [t1] w fun t24 w =>
    callW Tryz.prog (.func (.func 20) #[] #[]) [t22, t24] w fun t25 w =>
    callW Tryz.prog (.func (.func 23) #[] #[]) [t21, t25, t2] w fun t27 w =>
    ln1 t27 fun t28 =>
    Loop2 (.int .i64 0) (.int .i64 0) w fun _ t9 t29 w next =>
      binQ Tryz.prog w .lss 3 false t29 t28 fun t30 =>
      condW t30 (
        iaS 1 t27 t29 fun t31 =>
        ld1 w t31 fun t32 =>
        binQ Tryz.prog w .add 3 false t9 t32 fun t35 =>
        mnQ false [t35, (.int .i64 1099511627777)] fun t36 =>
        binQ Tryz.prog w .add 3 true t29 (.int .i64 1) fun t37 =>
        next t36 t37 w
      ) (
        callW Tryz.prog (.func (.func 26) #[] #[]) [t9] w fun t39 w =>
        exQ t39 0 fun t40 =>
        exQ t39 1 fun t41 =>
        R (.returned (.tuple #[t40, t41])) w
      )
  )

def A9 : Ann where
  live := fun
    | 0 => [9, 29]
    | _ => []
  wr := fun
    | 0 => fun i => Nat.beq i 9 || Nat.beq i 11 || (Nat.ble 29 i && Nat.ble i 37)
    | _ => fun _ => false
  sched := fun _ => .done

set_option maxRecDepth 100000 in
theorem ok9 : (codeOk Tryz.f9.ntmps A9 (Tryz.f9.body.getD .skip) 0 && Nat.ble 3 Tryz.f9.ntmps) = true := by kernel_rfl
set_option maxRecDepth 100000 in
theorem lift9 {t0 t1 t2 : Value} {w : World} {R : Ending → World → Prop} (h : S9 t0 t1 t2 w R) : Calls Tryz.prog 9 #[t0, t1, t2] w R :=
  calls_of_cw (fn := Tryz.f9) (c := Tryz.f9.body.getD .skip) A9 mixes Tryz.func9 (by kernel_rfl) ok9
    ((by kernel_rfl : (S9 t0 t1 t2 w R) = cw Tryz.prog A9 (Tryz.f9.body.getD .skip) 0 (bodyQ Tryz.prog Tryz.f9 R) (frOf #[t0, t1, t2]) w).mp h)

def S12 (t0 : Value) (w : World) (R : Ending → World → Prop) : Prop :=
  ln1 t0 fun t6 =>
  binQ Tryz.prog w .lss 3 true t6 (.int .i64 1) fun t7 =>
  gd t7 false (fun k => k t0 w) w fun t9 w =>
  gd t7 false (fun k => ln1 t9 fun v => k v w) w fun t10 w =>
  gd t7 false (fun k => binQ Tryz.prog w .gtr 3 true t10 (.int .i64 16) fun v => k v w) w fun t11 w =>
  pickQ t7 (.bool true) t11 fun t12 =>
  condW t12 (
    R (.returned (.bool false)) w
  ) (
    ln1 t0 fun t14 =>
    Loop1 (.int .i64 0) w fun _ t15 w next =>
      binQ Tryz.prog w .lss 3 false t15 t14 fun t16 =>
      condW t16 (
        iaS 4 t0 t15 fun t18 =>
        ldN 4 w t18 fun t19 =>
        boxW 25 (.agg #[(.int .i64 0), (.int .i64 0), (.int .i64 0), (.int .i64 0)]) w fun t4 w =>
        stW Tryz.prog 25 t4 t19 w fun w =>
        Drew w fun w =>
        fa1 t4 0 fun t20 =>
        ld1 w t20 fun t21 =>
        callW Tryz.prog (.func (.func 31) #[] #[]) [t21] w <| keepB w fun t22 w =>
        unQ .not t22 fun t23 =>
        gdQ t23 false (fun k => fa1 t4 1 k) fun t25 =>
        gdQ t23 false (fun k => ld1 w t25 k) fun t26 =>
        gd t23 false (fun k => callW Tryz.prog (.func (.func 31) #[] #[]) [t26] w k) w fun t27 w =>
        gdQ t23 false (fun k => unQ .not t27 k) fun t28 =>
        pickQ t23 (.bool true) t28 fun t29 =>
        gdQ t29 false (fun k => fa1 t4 2 k) fun t31 =>
        gdQ t29 false (fun k => ld1 w t31 k) fun t32 =>
        gd t29 false (fun k => callW Tryz.prog (.func (.func 31) #[] #[]) [t32] w k) w fun t33 w =>
        gdQ t29 false (fun k => unQ .not t33 k) fun t34 =>
        pickQ t29 (.bool true) t34 fun t35 =>
        gdQ t35 false (fun k => fa1 t4 3 k) fun t37 =>
        gdQ t35 false (fun k => ld1 w t37 k) fun t38 =>
        gd t35 false (fun k => callW Tryz.prog (.func (.func 31) #[] #[]) [t38] w k) w <| keepB w fun t39 w =>
        gdQ t35 false (fun k => unQ .not t39 k) fun t40 =>
        pickQ t35 (.bool true) t40 fun t41 =>
        gdQ t41 false (fun k => k t0) fun t43 =>
        gdQ t41 false (fun k => k t15) fun t44 =>
        gdQ t41 false (fun k => slS 4 t43 none (some t44) k) fun t45 =>
        gdQ t41 false (fun k => ldN 4 w t4 k) fun t46 =>
        gd t41 false (fun k => callW Tryz.prog (.func (.func 32) #[] #[]) [t45, t46] w k) w <| keepB w fun t47 w =>
        pickQ t41 (.bool true) t47 fun t48 =>
        condW t48 (
          R (.returned (.bool false)) w
        ) (
          binQ Tryz.prog w .add 3 true t15 (.int .i64 1) fun t49 =>
          next t49 w
        )
      ) (
        R (.returned (.bool true)) w
      )
  )

def A12 : Ann where
  live := fun
    | 0 => [15]
    | _ => []
  wr := fun
    | 0 => fun i => (Nat.ble 2 i && Nat.ble i 4) || (Nat.ble 15 i && Nat.ble i 49)
    | _ => fun _ => false
  sched := fun
    | 6 => (.take 0 (.take 1 (.eff 2 (.take 3 (.take 4 (.take 5 (.take 6 (.bar 7 (.take 8 (.take 9 (.take 10 (.take 11 (.take 12 (.bar 13 (.take 14 (.take 15 (.take 16 (.take 17 (.take 18 (.eff 19 (.take 20 (.take 21 (.take 22 (.take 23 (.take 24 (.take 25 (.take 26 (.eff 27 (.take 28 .done)))))))))))))))))))))))))))))
    | _ => .done

set_option maxRecDepth 100000 in
theorem ok12 : (codeOk Tryz.f12.ntmps A12 (Tryz.f12.body.getD .skip) 0 && Nat.ble 1 Tryz.f12.ntmps) = true := by kernel_rfl
set_option maxRecDepth 100000 in
theorem lift12 {t0 : Value} {w : World} {R : Ending → World → Prop} (h : S12 t0 w R) : Calls Tryz.prog 12 #[t0] w R :=
  calls_of_cw (fn := Tryz.f12) (c := Tryz.f12.body.getD .skip) A12 mixes Tryz.func12 (by kernel_rfl) ok12
    ((by kernel_rfl : (S12 t0 w R) = cw Tryz.prog A12 (Tryz.f12.body.getD .skip) 0 (bodyQ Tryz.prog Tryz.f12 R) (frOf #[t0]) w).mp h)

def S13 (t0 : Value) (w : World) (R : Ending → World → Prop) : Prop :=
  binQ Tryz.prog w .geq 3 true t0 (.int .i64 1) fun t4 =>
  gd t4 true (fun k => k t0 w) w fun t6 w =>
  gd t4 true (fun k => binQ Tryz.prog w .leq 3 true t6 (.int .i64 4) fun v => k v w) w fun t7 w =>
  pickQ t4 t7 (.bool false) fun t8 =>
  R (.returned t8) w

def A13 : Ann where
  live := fun _ => []
  wr := fun _ _ => false
  sched := fun _ => .done

set_option maxRecDepth 100000 in
theorem ok13 : (codeOk Tryz.f13.ntmps A13 (Tryz.f13.body.getD .skip) 0 && Nat.ble 1 Tryz.f13.ntmps) = true := by kernel_rfl
set_option maxRecDepth 100000 in
theorem lift13 {t0 : Value} {w : World} {R : Ending → World → Prop} (h : S13 t0 w R) : Calls Tryz.prog 13 #[t0] w R :=
  calls_of_cw (fn := Tryz.f13) (c := Tryz.f13.body.getD .skip) A13 mixes Tryz.func13 (by kernel_rfl) ok13
    ((by kernel_rfl : (S13 t0 w R) = cw Tryz.prog A13 (Tryz.f13.body.getD .skip) 0 (bodyQ Tryz.prog Tryz.f13 R) (frOf #[t0]) w).mp h)

def S14L1 (t1 t2 t19 t22 t36 t38 : Value) (R : Ending → World → Prop) (w : World) : Prop :=
  Loop2 (.int .i64 0) (.int .i64 0) w fun _ t11 t39 w next_2 =>
    binQ Tryz.prog w .lss 3 false t39 t38 fun t40 =>
    condW t40 (
      Join (fun (k_2 : Value → World → Prop) =>
        iaS 7 t19 t39 fun t41 =>
        ldN 7 w t41 fun t42 =>
        boxW 89 (.agg #[(.int .i64 0), (.int .i64 0), (.int .i64 0), (.int .i64 0), (.int .i64 0), (.int .i64 0), (.bool false)]) w fun t14 w =>
        stW Tryz.prog 89 t14 t42 w fun w =>
        fa1 t14 4 fun t44 =>
        ld1 w t44 fun t45 =>
        iaS 1 t36 t45 fun t46 =>
        ld1 w t46 fun t47 =>
        gd t47 false (fun k => k t22 w) w fun t49 w =>
        gd t47 false (fun k => fa1 t14 4 fun v => k v w) w fun t50 w =>
        gd t47 false (fun k => ld1 w t50 fun v => k v w) w fun t51 w =>
        gd t47 false (fun k => iaS 1 t49 t51 fun v => k v w) w fun t52 w =>
        gd t47 false (fun k => ld1 w t52 fun v => k v w) w fun t53 w =>
        gd t47 false (fun k => unQ .not t53 fun v => k v w) w fun t54 w =>
        pickQ t47 (.bool true) t54 fun t55 =>
        condW t55 (
          k_2 t11 w
        ) (
          fa1 t14 4 fun t57 =>
          ld1 w t57 fun t58 =>
          iaS 1 t36 t58 fun t59 =>
          stW Tryz.prog 4 t59 (.bool true) w fun w =>
          callW Tryz.prog (.func (.func 25) #[] #[]) [t1] w fun t61 w =>
          mkW Tryz.prog 34 t61 t61 w fun t62 w =>
          fa1 t14 4 fun t64 =>
          ld1 w t64 fun t65 =>
          iaS 1 t62 t65 fun t66 =>
          stW Tryz.prog 3 t66 (.int .i64 1) w fun w =>
          Drew w fun w =>
          fa1 t14 4 fun t72 =>
          ld1 w t72 fun t73 =>
          callW Tryz.prog (.func (.func 23) #[] #[]) [t19, t62, t2] w <| keepB w fun t71 w =>
          iaS 1 t71 t73 fun t74 =>
          ld1 w t74 fun t75 =>
          binQ Tryz.prog w .add 3 false t11 t75 fun t76 =>
          mnQ false [t76, (.int .i64 1099511627777)] fun t77 =>
          k_2 t77 w
        )
      ) fun t11_2 w =>
      binQ Tryz.prog w .add 3 true t39 (.int .i64 1) fun t78_2 =>
      next_2 t11_2 t78_2 w
    ) (
      R (.returned t11) w
    )

def S14L0 (t1 t2 t19 t22 t24 : Value) (R : Ending → World → Prop) (w : World) : Prop :=
  Loop1 (.int .i64 0) w fun _ t25 w next =>
    binQ Tryz.prog w .lss 3 false t25 t24 fun t26 =>
    condW t26 (
      iaS 7 t19 t25 fun t27 =>
      ldN 7 w t27 fun t28 =>
      boxW 89 (.agg #[(.int .i64 0), (.int .i64 0), (.int .i64 0), (.int .i64 0), (.int .i64 0), (.int .i64 0), (.bool false)]) w fun t10 w =>
      stW Tryz.prog 89 t10 t28 w fun w =>
      fa1 t10 5 fun t30 =>
      ld1 w t30 fun t31 =>
      iaS 1 t22 t31 fun t32 =>
      stW Tryz.prog 4 t32 (.bool true) w fun w =>
      binQ Tryz.prog w .add 3 true t25 (.int .i64 1) fun t33 =>
      next t33 w
    ) (
      Drew w fun w =>
      callW Tryz.prog (.func (.func 25) #[] #[]) [t1] w fun t35 w =>
      mkW Tryz.prog 91 t35 t35 w <| keepB w fun t36 w =>
      ln1 t19 fun t38 =>
      S14L1 t1 t2 t19 t22 t36 t38 R w
    )



def S14 (t0 t1 t2 : Value) (w : World) (R : Ending → World → Prop) : Prop :=
  callW Tryz.prog (.func (.func 24) #[] #[]) [t0, t1] w fun t18 w =>
  callW Tryz.prog (.func (.func 33) #[] #[]) [t18, (.func (.func 34) #[] #[])] w fun t19 w =>
  callW Tryz.prog (.func (.func 25) #[] #[]) [t1] w fun t21 w =>
  mkW Tryz.prog 91 t21 t21 w fun t22 w =>
  ln1 t19 fun t24 =>
  S14L0 t1 t2 t19 t22 t24 R w

def A14 : Ann where
  live := fun
    | 0 => [25]
    | 2 => [11, 39]
    | _ => []
  wr := fun
    | 0 => fun i => Nat.beq i 10 || (Nat.ble 25 i && Nat.ble i 33)
    | 2 => fun i => Nat.beq i 11 || (Nat.ble 14 i && Nat.ble i 15) || (Nat.ble 39 i && Nat.ble i 78)
    | _ => fun _ => false
  sched := fun
    | 8 => (.take 0 (.bar 1 (.take 3 (.eff 2 (.take 4 .done)))))
    | 16 => (.take 0 (.take 1 (.take 2 (.take 3 (.take 5 (.take 6 (.eff 4 (.take 7 (.take 8 (.take 9 (.take 10 (.take 11 .done))))))))))))
    | _ => .done

set_option maxRecDepth 100000 in
theorem ok14 : (codeOk Tryz.f14.ntmps A14 (Tryz.f14.body.getD .skip) 0 && Nat.ble 3 Tryz.f14.ntmps) = true := by kernel_rfl
set_option maxRecDepth 100000 in
theorem lift14 {t0 t1 t2 : Value} {w : World} {R : Ending → World → Prop} (h : S14 t0 t1 t2 w R) : Calls Tryz.prog 14 #[t0, t1, t2] w R :=
  calls_of_cw (fn := Tryz.f14) (c := Tryz.f14.body.getD .skip) A14 mixes Tryz.func14 (by kernel_rfl) ok14
    ((by kernel_rfl : (S14 t0 t1 t2 w R) = cw Tryz.prog A14 (Tryz.f14.body.getD .skip) 0 (bodyQ Tryz.prog Tryz.f14 R) (frOf #[t0, t1, t2]) w).mp h)

def S15 (t0 t1 : Value) (w : World) (R : Ending → World → Prop) : Prop :=
  boxW 22 t0 w fun t2 w =>
  ld1 w t2 fun t19 =>
  callW Tryz.prog (.func (.func 12) #[] #[]) [t19] w fun t20 w =>
  unQ .not t20 fun t21 =>
  gd t21 false (fun k => k t1 w) w fun t23 w =>
  gd t21 false (fun k => ln1 t23 fun v => k v w) w fun t24 w =>
  gd t21 false (fun k => callW Tryz.prog (.func (.func 13) #[] #[]) [t24] w k) w fun t25 w =>
  gd t21 false (fun k => unQ .not t25 fun v => k v w) w fun t26 w =>
  pickQ t21 (.bool true) t26 fun t27 =>
  gd t27 false (fun k => k t1 w) w fun t29 w =>
  gd t27 false (fun k => iaS 1 t29 (.int .i64 0) fun v => k v w) w fun t30 w =>
  gd t27 false (fun k => ld1 w t30 fun v => k v w) w fun t31 w =>
  gd t27 false (fun k => ln1 t31 fun v => k v w) w fun t32 w =>
  gd t27 false (fun k => callW Tryz.prog (.func (.func 13) #[] #[]) [t32] w k) w fun t33 w =>
  gd t27 false (fun k => unQ .not t33 fun v => k v w) w fun t34 w =>
  pickQ t27 (.bool true) t34 fun t35 =>
  condW t35 (
    R (.returned (.tuple #[(.bool false), (.bool false), (.int .i64 2)])) w
  ) (
    iaS 1 t1 (.int .i64 0) fun t37 =>
    ld1 w t37 fun t38 =>
    ln1 t38 fun t39 =>
    ln1 t1 fun t41 =>
    ln1 t1 fun t43 =>
    Loop1 (.int .i64 0) w fun _ t44 w next =>
      binQ Tryz.prog w .lss 3 false t44 t43 fun t45 =>
      condW t45 (
        iaS 1 t1 t44 fun t46 =>
        ld1 w t46 fun t47 =>
        ln1 t47 fun t49 =>
        binQ Tryz.prog w .neq 3 false t49 t39 fun t51 =>
        gd t51 false (fun k => k t47 w) w fun t53 w =>
        gd t51 false (fun k => k (.func (.func 36) #[] #[t2]) w) w fun t54 w =>
        gd t51 false (fun k => callW Tryz.prog (.func (.func 35) #[] #[]) [t53, t54] w k) w fun t55 w =>
        pickQ t51 (.bool true) t55 fun t56 =>
        condW t56 (
          R (.returned (.tuple #[(.bool false), (.bool false), (.int .i64 2)])) w
        ) (
          binQ Tryz.prog w .add 3 true t44 (.int .i64 1) fun t57 =>
          next t57 w
        )
      ) (
        ln1 t1 fun t59 =>
        Loop3 (.bool true) (.bool true) (.int .i64 0) w fun _ t11 t12 t60 w next_2 =>
          binQ Tryz.prog w .lss 3 false t60 t59 fun t61 =>
          condW t61 (
            iaS 1 t1 t60 fun t63 =>
            ld1 w t63 fun t64 =>
            ln1 t64 fun t66 =>
            Loop3 t11 t12 (.int .i64 0) w fun _ t11_2 t12_2 t67 w next_3 =>
              binQ Tryz.prog w .lss 3 false t67 t66 fun t68 =>
              condW t68 (
                iaS 1 t64 t67 fun t70 =>
                ld1 w t70 fun t71 =>
                Drew w fun w =>
                Join (fun (k_2 : Value → Value → World → Prop) =>
                  ∃ X : Nat → Prop,
                  takeX X w (fun w k => ld1 w t2 k) fun t72 =>
                  takeX X w (fun w k => k t64) fun t73 =>
                  takeX X w (fun w k => k t67) fun t74 =>
                  takeX X w (fun w k => binQ Tryz.prog w .add 3 true t74 (.int .i64 1) k) fun t75 =>
                  takeX X w (fun w k => k t39) fun t76 =>
                  takeX X w (fun w k => binQ Tryz.prog w .rem 3 false t75 t76 k) fun t77 =>
                  takeX X w (fun w k => iaS 1 t73 t77 k) fun t78 =>
                  takeX X w (fun w k => ld1 w t78 k) fun t79 =>
                  takeX X w (fun w k => iaS 4 t72 t79 k) fun t80 =>
                  takeX X w (fun w k => ldN 4 w t80 k) fun t81 =>
                  takeX X w (fun w k => ld1 w t2 k) fun t82 =>
                  takeX X w (fun w k => k t1) fun t83 =>
                  takeX X w (fun w k => k t60) fun t84 =>
                  takeX X w (fun w k => binQ Tryz.prog w .add 3 true t84 (.int .i64 1) k) fun t85 =>
                  takeX X w (fun w k => k t41) fun t86 =>
                  takeX X w (fun w k => binQ Tryz.prog w .rem 3 false t85 t86 k) fun t87 =>
                  takeX X w (fun w k => iaS 1 t83 t87 k) fun t88 =>
                  takeX X w (fun w k => ld1 w t88 k) fun t89 =>
                  takeX X w (fun w k => k t67) fun t90 =>
                  takeX X w (fun w k => iaS 1 t89 t90 k) fun t91 =>
                  takeX X w (fun w k => ld1 w t91 k) fun t92 =>
                  takeX X w (fun w k => iaS 4 t82 t92 k) fun t93 =>
                  takeX X w (fun w k => ldN 4 w t93 k) fun t94 =>
                  And (
                    boxW 25 (.agg #[(.int .i64 0), (.int .i64 0), (.int .i64 0), (.int .i64 0)]) w <| keepX X w fun t17_2 w =>
                    boxW 25 (.agg #[(.int .i64 0), (.int .i64 0), (.int .i64 0), (.int .i64 0)]) w <| keepX X w fun t18_2 w =>
                    stW Tryz.prog 25 t17_2 t81 w <| keepW X w fun w =>
                    stW Tryz.prog 25 t18_2 t94 w fun w =>
                    k_2 t17_2 t18_2 w
                  ) <|
                  And (
                    boxW 25 (.agg #[(.int .i64 0), (.int .i64 0), (.int .i64 0), (.int .i64 0)]) w <| keepX X w fun t18_3 w =>
                    boxW 25 (.agg #[(.int .i64 0), (.int .i64 0), (.int .i64 0), (.int .i64 0)]) w <| keepX X w fun t17_3 w =>
                    stW Tryz.prog 25 t17_3 t81 w <| keepW X w fun w =>
                    stW Tryz.prog 25 t18_3 t94 w fun w =>
                    k_2 t17_3 t18_3 w
                  ) <|
                  True
                ) fun t17 t18 w =>
                Drew w fun w =>
                ld1 w t2 fun t95 =>
                iaS 4 t95 t71 fun t97 =>
                fa1 t97 1 fun t98 =>
                ld1 w t98 fun t99 =>
                fa1 t17 3 fun t100 =>
                ld1 w t100 fun t101 =>
                binQ Tryz.prog w .neq 3 false t99 t101 fun t102 =>
                Join (fun (k_4 : Value → Value → World → Prop) =>
                  condW t102 (
                    gd t11_2 true (fun k => k t67 w) w fun t105 w =>
                    gd t11_2 true (fun k => k t39 w) w fun t106 w =>
                    gd t11_2 true (fun k => binQ Tryz.prog w .sub 3 true t106 (.int .i64 1) fun v => k v w) w fun t107 w =>
                    gd t11_2 true (fun k => binQ Tryz.prog w .eql 3 false t105 t107 fun v => k v w) w fun t108 w =>
                    pickQ t11_2 t108 (.bool false) fun t109 =>
                    k_4 t109 (.bool false) w
                  ) (
                    k_4 t11_2 t12_2 w
                  )
                ) fun t11_4 t12_4 w =>
                Drew w fun w =>
                ld1 w t2 fun t110_2 =>
                iaS 4 t110_2 t71 fun t112_2 =>
                fa1 t112_2 2 fun t113_2 =>
                ld1 w t113_2 fun t114_2 =>
                fa1 t18 0 fun t115_2 =>
                ld1 w t115_2 fun t116_2 =>
                binQ Tryz.prog w .neq 3 false t114_2 t116_2 fun t117_2 =>
                Join (fun (k_5 : Value → Value → World → Prop) =>
                  condW t117_2 (
                    gd t11_4 true (fun k => k t60 w) w fun t120_2 w =>
                    gd t11_4 true (fun k => k t41 w) w fun t121_2 w =>
                    gd t11_4 true (fun k => binQ Tryz.prog w .sub 3 true t121_2 (.int .i64 1) fun v => k v w) w fun t122_2 w =>
                    gd t11_4 true (fun k => binQ Tryz.prog w .eql 3 false t120_2 t122_2 fun v => k v w) w fun t123_2 w =>
                    pickQ t11_4 t123_2 (.bool false) fun t124_2 =>
                    k_5 t124_2 (.bool false) w
                  ) (
                    k_5 t11_4 t12_4 w
                  )
                ) fun t11_5 t12_5 w =>
                binQ Tryz.prog w .add 3 true t67 (.int .i64 1) fun t125_4 =>
                next_3 t11_5 t12_5 t125_4 w
              ) (
                binQ Tryz.prog w .add 3 true t60 (.int .i64 1) fun t126 =>
                next_2 t11_2 t12_2 t126 w
              )
          ) (
            R (.returned (.tuple #[t11, t12, (.int .i64 0)])) w
          )
      )
  )

def A15 : Ann where
  live := fun
    | 0 => [44]
    | 2 => [11, 12, 60]
    | 4 => [11, 12, 67]
    | _ => []
  wr := fun
    | 0 => fun i => (Nat.ble 4 i && Nat.ble i 6) || Nat.beq i 10 || (Nat.ble 44 i && Nat.ble i 57)
    | 2 => fun i => (Nat.ble 11 i && Nat.ble i 18) || (Nat.ble 60 i && Nat.ble i 126)
    | 4 => fun i => (Nat.ble 11 i && Nat.ble i 12) || (Nat.ble 15 i && Nat.ble i 18) || (Nat.ble 67 i && Nat.ble i 125)
    | _ => fun _ => false
  sched := fun
    | 17 => (.cls (.take 0 (.take 1 (.take 2 (.take 3 (.take 4 (.take 5 (.take 6 (.take 7 (.take 8 (.take 9 (.take 10 (.take 11 (.take 12 (.take 13 (.take 14 (.take 15 (.take 16 (.take 17 (.take 18 (.take 19 (.take 20 (.take 21 (.take 22 (.alt 23 (.eff 24 (.eff 25 (.bar 26 .done))) (.alt 24 (.eff 23 (.eff 25 (.bar 26 .done))) .nomore))))))))))))))))))))))))))
    | 18 => (.take 0 (.take 1 (.take 2 (.take 3 (.take 4 (.take 5 (.take 6 (.take 7 .done))))))))
    | 21 => (.take 0 (.take 1 (.take 2 (.take 3 (.take 4 (.take 5 (.take 6 (.take 7 .done))))))))
    | _ => .done

set_option maxRecDepth 100000 in
theorem ok15 : (codeOk Tryz.f15.ntmps A15 (Tryz.f15.body.getD .skip) 0 && Nat.ble 2 Tryz.f15.ntmps) = true := by kernel_rfl
set_option maxRecDepth 100000 in
theorem lift15 {t0 t1 : Value} {w : World} {R : Ending → World → Prop} (h : S15 t0 t1 w R) : Calls Tryz.prog 15 #[t0, t1] w R :=
  calls_of_cw (fn := Tryz.f15) (c := Tryz.f15.body.getD .skip) A15 mixes Tryz.func15 (by kernel_rfl) ok15
    ((by kernel_rfl : (S15 t0 t1 w R) = cw Tryz.prog A15 (Tryz.f15.body.getD .skip) 0 (bodyQ Tryz.prog Tryz.f15 R) (frOf #[t0, t1]) w).mp h)

def S20 (t0 t1 : Value) (w : World) (R : Ending → World → Prop) : Prop :=
  binQ Tryz.prog w .lss 3 true t1 (.int .i64 0) fun t10 =>
  Join (fun (k_3 : World → Prop) =>
    condW t10 (
      False
    ) (
      k_3 w
    )
  ) fun w =>
  ln1 t0 fun t14_2 =>
  cv1 .u64 t14_2 fun t15_2 =>
  cv1 .u64 t1 fun t17_2 =>
  callW Tryz.prog (.func (.func 44) #[] #[]) [t15_2, t17_2] w fun t18_2 w =>
  exQ t18_2 0 fun t19_2 =>
  exQ t18_2 1 fun t20_2 =>
  binQ Tryz.prog w .gtr 102 true t19_2 (.int .u64 0) fun t22_2 =>
  gd t22_2 false (fun k => k t20_2 w) w fun t24_2 w =>
  gd t22_2 false (fun k => binQ Tryz.prog w .gtr 102 true t24_2 (.int .u64 9223372036854775807) fun v => k v w) w fun t25_2 w =>
  pickQ t22_2 (.bool true) t25_2 fun t26_2 =>
  Join (fun (k_4 : World → Prop) =>
    condW t26_2 (
      False
    ) (
      k_4 w
    )
  ) fun w =>
  cv1 .i64 t20_2 fun t29_4 =>
  mkW Tryz.prog 34 t29_4 t29_4 w fun t30_4 w =>
  semW Tryz.prog (cpS [34, 34] 3 [t30_4, t0]) w fun t33_4 w =>
  Loop1 t33_4 w fun _ t8_7 w next_4 =>
    ln1 t30_4 fun t36_4 =>
    binQ Tryz.prog w .lss 3 false t8_7 t36_4 fun t37_4 =>
    condW t37_4 (
      Drew w fun w =>
      ∃ X_4 : Nat → Prop,
      takeX X_4 w (fun w k => k t8_7) fun t38_4 =>
      slS 1 t30_4 (some t8_7) none fun t41_4 =>
      slS 1 t30_4 none (some t8_7) fun t44_4 =>
      semW Tryz.prog (cpS [34, 34] 3 [t41_4, t44_4]) w <| keepX X_4 w fun t45_4 w =>
      takeX X_4 w (fun w k => binQ Tryz.prog w .add 3 false t38_4 t45_4 k) fun t46_4 =>
      takeX X_4 w (fun w k => k t46_4) fun t8_8 =>
      next_4 t8_8 w
    ) (
      R (.returned t30_4) w
    )

def A20 : Ann where
  live := fun
    | 0 => [8]
    | _ => []
  wr := fun
    | 0 => fun i => Nat.beq i 8 || (Nat.ble 34 i && Nat.ble i 46)
    | _ => fun _ => false
  sched := fun
    | 9 => (.cls (.take 0 (.take 1 (.take 2 (.take 3 (.take 4 (.take 5 (.take 6 (.eff 7 (.take 8 (.take 9 .done)))))))))))
    | _ => .done

set_option maxRecDepth 100000 in
theorem ok20 : (codeOk Tryz.f20.ntmps A20 (Tryz.f20.body.getD .skip) 0 && Nat.ble 2 Tryz.f20.ntmps) = true := by kernel_rfl
set_option maxRecDepth 100000 in
theorem lift20 {t0 t1 : Value} {w : World} {R : Ending → World → Prop} (h : S20 t0 t1 w R) : Calls Tryz.prog 20 #[t0, t1] w R :=
  calls_of_cw (fn := Tryz.f20) (c := Tryz.f20.body.getD .skip) A20 mixes Tryz.func20 (by kernel_rfl) ok20
    ((by kernel_rfl : (S20 t0 t1 w R) = cw Tryz.prog A20 (Tryz.f20.body.getD .skip) 0 (bodyQ Tryz.prog Tryz.f20 R) (frOf #[t0, t1]) w).mp h)

def S22 (t0 t1 t2 : Value) (w : World) (R : Ending → World → Prop) : Prop :=
  callW Tryz.prog (.func (.func 12) #[] #[]) [t0] w fun t8 w =>
  unQ .not t8 fun t9 =>
  gd t9 false (fun k => k t1 w) w fun t11 w =>
  gd t9 false (fun k => callW Tryz.prog (.func (.func 13) #[] #[]) [t11] w k) w fun t12 w =>
  gd t9 false (fun k => unQ .not t12 fun v => k v w) w fun t13 w =>
  pickQ t9 (.bool true) t13 fun t14 =>
  gd t14 false (fun k => k t2 w) w fun t16 w =>
  gd t14 false (fun k => callW Tryz.prog (.func (.func 13) #[] #[]) [t16] w k) w fun t17 w =>
  gd t14 false (fun k => unQ .not t17 fun v => k v w) w fun t18 w =>
  pickQ t14 (.bool true) t18 fun t19 =>
  condW t19 (
    R (.returned (.int .i64 2)) w
  ) (
    R (.returned (.int .i64 0)) w
  )

def A22 : Ann where
  live := fun _ => []
  wr := fun _ _ => false
  sched := fun _ => .done

set_option maxRecDepth 100000 in
theorem ok22 : (codeOk Tryz.f22.ntmps A22 (Tryz.f22.body.getD .skip) 0 && Nat.ble 3 Tryz.f22.ntmps) = true := by kernel_rfl
set_option maxRecDepth 100000 in
theorem lift22 {t0 t1 t2 : Value} {w : World} {R : Ending → World → Prop} (h : S22 t0 t1 t2 w R) : Calls Tryz.prog 22 #[t0, t1, t2] w R :=
  calls_of_cw (fn := Tryz.f22) (c := Tryz.f22.body.getD .skip) A22 mixes Tryz.func22 (by kernel_rfl) ok22
    ((by kernel_rfl : (S22 t0 t1 t2 w R) = cw Tryz.prog A22 (Tryz.f22.body.getD .skip) 0 (bodyQ Tryz.prog Tryz.f22 R) (frOf #[t0, t1, t2]) w).mp h)

def S23 (t0 t1 t2 : Value) (w : World) (R : Ending → World → Prop) : Prop :=
  Loop2 t1 (.int .i64 0) w fun _ t1_2 t11 w next =>
    binQ Tryz.prog w .lss 3 false t11 t2 fun t12 =>
    condW t12 (
      ln1 t1_2 fun t14 =>
      mkW Tryz.prog 34 t14 t14 w fun t15 w =>
      ln1 t0 fun t17 =>
      Loop1 (.int .i64 0) w fun _ t18 w next_2 =>
        binQ Tryz.prog w .lss 3 false t18 t17 fun t19 =>
        condW t19 (
          iaS 7 t0 t18 fun t20 =>
          ldN 7 w t20 fun t21 =>
          boxW 89 (.agg #[(.int .i64 0), (.int .i64 0), (.int .i64 0), (.int .i64 0), (.int .i64 0), (.int .i64 0), (.bool false)]) w fun t9 w =>
          stW Tryz.prog 89 t9 t21 w fun w =>
          Drew w fun w =>
          fa1 t9 5 fun t23 =>
          ld1 w t23 fun t24 =>
          fa1 t9 5 fun t26 =>
          ld1 w t26 fun t27 =>
          iaS 1 t15 t27 fun t28 =>
          ld1 w t28 fun t29 =>
          fa1 t9 4 fun t31 =>
          ld1 w t31 fun t32 =>
          iaS 1 t1_2 t32 fun t33 =>
          ld1 w t33 fun t34 =>
          binQ Tryz.prog w .add 3 false t29 t34 fun t35 =>
          mnQ false [t35, (.int .i64 1099511627777)] fun t36 =>
          iaS 1 t15 t24 fun t37 =>
          stW Tryz.prog 3 t37 t36 w fun w =>
          binQ Tryz.prog w .add 3 true t18 (.int .i64 1) fun t38 =>
          next_2 t38 w
        ) (
          binQ Tryz.prog w .add 3 true t11 (.int .i64 1) fun t40 =>
          next t15 t40 w
        )
    ) (
      R (.returned t1_2) w
    )

def A23 : Ann where
  live := fun
    | 0 => [1, 11]
    | 2 => [18]
    | _ => []
  wr := fun
    | 0 => fun i => Nat.beq i 1 || Nat.beq i 7 || Nat.beq i 9 || (Nat.ble 11 i && Nat.ble i 40)
    | 2 => fun i => Nat.beq i 9 || (Nat.ble 18 i && Nat.ble i 38)
    | _ => fun _ => false
  sched := fun
    | 7 => (.take 0 (.take 1 (.take 2 (.take 3 (.take 4 (.take 5 (.take 6 (.take 7 (.take 8 (.take 9 (.take 10 (.take 11 (.take 12 (.take 13 (.take 14 (.take 15 (.bar 16 .done)))))))))))))))))
    | _ => .done

set_option maxRecDepth 100000 in
theorem ok23 : (codeOk Tryz.f23.ntmps A23 (Tryz.f23.body.getD .skip) 0 && Nat.ble 3 Tryz.f23.ntmps) = true := by kernel_rfl
set_option maxRecDepth 100000 in
theorem lift23 {t0 t1 t2 : Value} {w : World} {R : Ending → World → Prop} (h : S23 t0 t1 t2 w R) : Calls Tryz.prog 23 #[t0, t1, t2] w R :=
  calls_of_cw (fn := Tryz.f23) (c := Tryz.f23.body.getD .skip) A23 mixes Tryz.func23 (by kernel_rfl) ok23
    ((by kernel_rfl : (S23 t0 t1 t2 w R) = cw Tryz.prog A23 (Tryz.f23.body.getD .skip) 0 (bodyQ Tryz.prog Tryz.f23 R) (frOf #[t0, t1, t2]) w).mp h)

def S24 (t0 t1 : Value) (w : World) (R : Ending → World → Prop) : Prop :=
  boxW 22 t0 w fun t2 w =>
  boxW 3 t1 w fun t3 w =>
  boxW 76 (.slice none 0 0) w fun t5 w =>
  boxW 105 .nilFunc w fun t6 w =>
  stW Tryz.prog 105 t6 (.func (.func 45) #[] #[t3, t2, t5, t6]) w fun w =>
  ld1 w t6 fun t8 =>
  bdQ Tryz.prog 89 [] fun t9 =>
  callW Tryz.prog t8 [t9, (.int .i64 0)] w fun t10 w =>
  ld1 w t5 fun t11 =>
  R (.returned t11) w

def A24 : Ann where
  live := fun _ => []
  wr := fun _ _ => false
  sched := fun _ => .done

set_option maxRecDepth 100000 in
theorem ok24 : (codeOk Tryz.f24.ntmps A24 (Tryz.f24.body.getD .skip) 0 && Nat.ble 2 Tryz.f24.ntmps) = true := by kernel_rfl
set_option maxRecDepth 100000 in
theorem lift24 {t0 t1 : Value} {w : World} {R : Ending → World → Prop} (h : S24 t0 t1 w R) : Calls Tryz.prog 24 #[t0, t1] w R :=
  calls_of_cw (fn := Tryz.f24) (c := Tryz.f24.body.getD .skip) A24 mixes Tryz.func24 (by kernel_rfl) ok24
    ((by kernel_rfl : (S24 t0 t1 w R) = cw Tryz.prog A24 (Tryz.f24.body.getD .skip) 0 (bodyQ Tryz.prog Tryz.f24 R) (frOf #[t0, t1]) w).mp h)

def S25 (t0 : Value) (w : World) (R : Ending → World → Prop) : Prop :=
  Loop2 (.int .i64 1) (.int .i64 0) w fun _ t3 t5 w next =>
    binQ Tryz.prog w .lss 3 false t5 t0 fun t6 =>
    condW t6 (
      binQ Tryz.prog w .mul 3 true t3 (.int .i64 8) fun t8 =>
      binQ Tryz.prog w .add 3 true t5 (.int .i64 1) fun t9 =>
      next t8 t9 w
    ) (
      R (.returned t3) w
    )

def A25 : Ann where
  live := fun
    | 0 => [3, 5]
    | _ => []
  wr := fun
    | 0 => fun i => Nat.beq i 3 || (Nat.ble 5 i && Nat.ble i 9)
    | _ => fun _ => false
  sched := fun _ => .done

set_option maxRecDepth 100000 in
theorem ok25 : (codeOk Tryz.f25.ntmps A25 (Tryz.f25.body.getD .skip) 0 && Nat.ble 1 Tryz.f25.ntmps) = true := by kernel_rfl
set_option maxRecDepth 100000 in
theorem lift25 {t0 : Value} {w : World} {R : Ending → World → Prop} (h : S25 t0 w R) : Calls Tryz.prog 25 #[t0] w R :=
  calls_of_cw (fn := Tryz.f25) (c := Tryz.f25.body.getD .skip) A25 mixes Tryz.func25 (by kernel_rfl) ok25
    ((by kernel_rfl : (S25 t0 w R) = cw Tryz.prog A25 (Tryz.f25.body.getD .skip) 0 (bodyQ Tryz.prog Tryz.f25 R) (frOf #[t0]) w).mp h)

def S26 (t0 : Value) (w : World) (R : Ending → World → Prop) : Prop :=
  binQ Tryz.prog w .gtr 3 true t0 (.int .i64 1099511627776) fun t5 =>
  condW t5 (
    R (.returned (.tuple #[(.int .i64 0), (.int .i64 8)])) w
  ) (
    R (.returned (.tuple #[t0, (.int .i64 0)])) w
  )

def A26 : Ann where
  live := fun _ => []
  wr := fun _ _ => false
  sched := fun _ => .done

set_option maxRecDepth 100000 in
theorem ok26 : (codeOk Tryz.f26.ntmps A26 (Tryz.f26.body.getD .skip) 0 && Nat.ble 1 Tryz.f26.ntmps) = true := by kernel_rfl
set_option maxRecDepth 100000 in
theorem lift26 {t0 : Value} {w : World} {R : Ending → World → Prop} (h : S26 t0 w R) : Calls Tryz.prog 26 #[t0] w R :=
  calls_of_cw (fn := Tryz.f26) (c := Tryz.f26.body.getD .skip) A26 mixes Tryz.func26 (by kernel_rfl) ok26
    ((by kernel_rfl : (S26 t0 w R) = cw Tryz.prog A26 (Tryz.f26.body.getD .skip) 0 (bodyQ Tryz.prog Tryz.f26 R) (frOf #[t0]) w).mp h)

def S31 (t0 : Value) (w : World) (R : Ending → World → Prop) : Prop :=
  binQ Tryz.prog w .geq 3 true t0 (.int .i64 0) fun t4 =>
  gd t4 true (fun k => k t0 w) w fun t6 w =>
  gd t4 true (fun k => binQ Tryz.prog w .leq 3 true t6 (.int .i64 7) fun v => k v w) w fun t7 w =>
  pickQ t4 t7 (.bool false) fun t8 =>
  R (.returned t8) w

def A31 : Ann where
  live := fun _ => []
  wr := fun _ _ => false
  sched := fun _ => .done

set_option maxRecDepth 100000 in
theorem ok31 : (codeOk Tryz.f31.ntmps A31 (Tryz.f31.body.getD .skip) 0 && Nat.ble 1 Tryz.f31.ntmps) = true := by kernel_rfl
set_option maxRecDepth 100000 in
theorem lift31 {t0 : Value} {w : World} {R : Ending → World → Prop} (h : S31 t0 w R) : Calls Tryz.prog 31 #[t0] w R :=
  calls_of_cw (fn := Tryz.f31) (c := Tryz.f31.body.getD .skip) A31 mixes Tryz.func31 (by kernel_rfl) ok31
    ((by kernel_rfl : (S31 t0 w R) = cw Tryz.prog A31 (Tryz.f31.body.getD .skip) 0 (bodyQ Tryz.prog Tryz.f31 R) (frOf #[t0]) w).mp h)

def S32 (t0 t1 : Value) (w : World) (R : Ending → World → Prop) : Prop :=
  boxW 25 t1 w fun t3 w =>
  ldN 4 w t3 fun t6 =>
  callW Tryz.prog (.func (.func 60) #[] #[]) [t0, t6] w fun t7 w =>
  binQ Tryz.prog w .geq 3 true t7 (.int .i64 0) fun t8 =>
  R (.returned t8) w

def A32 : Ann where
  live := fun _ => []
  wr := fun _ _ => false
  sched := fun _ => .done

set_option maxRecDepth 100000 in
theorem ok32 : (codeOk Tryz.f32.ntmps A32 (Tryz.f32.body.getD .skip) 0 && Nat.ble 2 Tryz.f32.ntmps) = true := by kernel_rfl
set_option maxRecDepth 100000 in
theorem lift32 {t0 t1 : Value} {w : World} {R : Ending → World → Prop} (h : S32 t0 t1 w R) : Calls Tryz.prog 32 #[t0, t1] w R :=
  calls_of_cw (fn := Tryz.f32) (c := Tryz.f32.body.getD .skip) A32 mixes Tryz.func32 (by kernel_rfl) ok32
    ((by kernel_rfl : (S32 t0 t1 w R) = cw Tryz.prog A32 (Tryz.f32.body.getD .skip) 0 (bodyQ Tryz.prog Tryz.f32 R) (frOf #[t0, t1]) w).mp h)

def S34 (t0 : Value) (w : World) (R : Ending → World → Prop) : Prop :=
  boxW 89 t0 w fun t1 w =>
  fa1 t1 6 fun t3 =>
  ld1 w t3 fun t4 =>
  unQ .not t4 fun t5 =>
  R (.returned t5) w

def A34 : Ann where
  live := fun _ => []
  wr := fun _ _ => false
  sched := fun _ => .done

set_option maxRecDepth 100000 in
theorem ok34 : (codeOk Tryz.f34.ntmps A34 (Tryz.f34.body.getD .skip) 0 && Nat.ble 1 Tryz.f34.ntmps) = true := by kernel_rfl
set_option maxRecDepth 100000 in
theorem lift34 {t0 : Value} {w : World} {R : Ending → World → Prop} (h : S34 t0 w R) : Calls Tryz.prog 34 #[t0] w R :=
  calls_of_cw (fn := Tryz.f34) (c := Tryz.f34.body.getD .skip) A34 mixes Tryz.func34 (by kernel_rfl) ok34
    ((by kernel_rfl : (S34 t0 w R) = cw Tryz.prog A34 (Tryz.f34.body.getD .skip) 0 (bodyQ Tryz.prog Tryz.f34 R) (frOf #[t0]) w).mp h)

def S36 (t0 t1 : Value) (w : World) (R : Ending → World → Prop) : Prop :=
  binQ Tryz.prog w .lss 3 true t0 (.int .i64 0) fun t5 =>
  gd t5 false (fun k => k t0 w) w fun t7 w =>
  gd t5 false (fun k => ld1 w t1 fun v => k v w) w fun t8 w =>
  gd t5 false (fun k => ln1 t8 fun v => k v w) w fun t9 w =>
  gd t5 false (fun k => binQ Tryz.prog w .geq 3 false t7 t9 fun v => k v w) w fun t10 w =>
  pickQ t5 (.bool true) t10 fun t11 =>
  R (.returned t11) w

def A36 : Ann where
  live := fun _ => []
  wr := fun _ _ => false
  sched := fun _ => .done

set_option maxRecDepth 100000 in
theorem ok36 : (codeOk Tryz.f36.ntmps A36 (Tryz.f36.body.getD .skip) 0 && Nat.ble 2 Tryz.f36.ntmps) = true := by kernel_rfl
set_option maxRecDepth 100000 in
theorem lift36 {t0 t1 : Value} {w : World} {R : Ending → World → Prop} (h : S36 t0 t1 w R) : Calls Tryz.prog 36 #[t0, t1] w R :=
  calls_of_cw (fn := Tryz.f36) (c := Tryz.f36.body.getD .skip) A36 mixes Tryz.func36 (by kernel_rfl) ok36
    ((by kernel_rfl : (S36 t0 t1 w R) = cw Tryz.prog A36 (Tryz.f36.body.getD .skip) 0 (bodyQ Tryz.prog Tryz.f36 R) (frOf #[t0, t1]) w).mp h)

def S44 (t0 t1 : Value) (w : World) (R : Ending → World → Prop) : Prop :=
  condW (.bool false) (
    cv1 .u32 t0 fun t12 =>
    cv1 .u32 t1 fun t14 =>
    callW Tryz.prog (.func (.func 73) #[] #[]) [t12, t14] w fun t15 w =>
    exQ t15 0 fun t16 =>
    exQ t15 1 fun t17 =>
    cv1 .u64 t16 fun t19 =>
    cv1 .u64 t17 fun t21 =>
    R (.returned (.tuple #[t19, t21])) w
  ) (
    callW Tryz.prog (.func (.func 74) #[] #[]) [t0, t1] w fun t25 w =>
    exQ t25 0 fun t26 =>
    exQ t25 1 fun t27 =>
    R (.returned (.tuple #[t26, t27])) w
  )

def A44 : Ann where
  live := fun _ => []
  wr := fun _ _ => false
  sched := fun _ => .done

set_option maxRecDepth 100000 in
theorem ok44 : (codeOk Tryz.f44.ntmps A44 (Tryz.f44.body.getD .skip) 0 && Nat.ble 2 Tryz.f44.ntmps) = true := by kernel_rfl
set_option maxRecDepth 100000 in
theorem lift44 {t0 t1 : Value} {w : World} {R : Ending → World → Prop} (h : S44 t0 t1 w R) : Calls Tryz.prog 44 #[t0, t1] w R :=
  calls_of_cw (fn := Tryz.f44) (c := Tryz.f44.body.getD .skip) A44 mixes Tryz.func44 (by kernel_rfl) ok44
    ((by kernel_rfl : (S44 t0 t1 w R) = cw Tryz.prog A44 (Tryz.f44.body.getD .skip) 0 (bodyQ Tryz.prog Tryz.f44 R) (frOf #[t0, t1]) w).mp h)

def S45 (t0 t1 t2 t3 t4 t5 : Value) (w : World) (R : Ending → World → Prop) : Prop :=
  boxW 89 t0 w fun t6 w =>
  ld1 w t2 fun t12 =>
  binQ Tryz.prog w .eql 3 false t1 t12 fun t13 =>
  condW t13 (
    Drew w fun w =>
    ld1 w t3 fun t14 =>
    fa1 t6 0 fun t15 =>
    iaA 4 1 t15 (.int .i64 0) fun t16 =>
    ld1 w t16 fun t17 =>
    iaS 4 t14 t17 fun t18 =>
    fa1 t18 3 fun t19 =>
    ld1 w t19 fun t20 =>
    ld1 w t3 fun t21 =>
    binQ Tryz.prog w .sub 3 true t1 (.int .i64 1) fun t23 =>
    fa1 t6 0 fun t24 =>
    iaA 4 1 t24 t23 fun t25 =>
    ld1 w t25 fun t26 =>
    iaS 4 t21 t26 fun t27 =>
    fa1 t27 1 fun t28 =>
    ld1 w t28 fun t29 =>
    binQ Tryz.prog w .eql 3 false t20 t29 fun t30 =>
    fa1 t6 6 fun t31 =>
    stW Tryz.prog 4 t31 t30 w fun w =>
    ld1 w t4 fun t32 =>
    ldN 7 w t6 fun t33 =>
    bsW Tryz.prog 76 1 [(0, t33)] w fun t34 w =>
    semW Tryz.prog (apS [76, 76] 76 [t32, t34]) w fun t35 w =>
    stW Tryz.prog 76 t4 t35 w fun w =>
    R (.returned (.tuple #[])) w
  ) (
    ld1 w t3 fun t36 =>
    ln1 t36 fun t37 =>
    Loop1 (.int .i64 0) w fun _ t38 w next =>
      binQ Tryz.prog w .lss 3 false t38 t37 fun t39 =>
      condW t39 (
        Join (fun (k_2 : World → Prop) =>
          iaS 4 t36 t38 fun t41 =>
          ldN 4 w t41 fun t42 =>
          boxW 25 (.agg #[(.int .i64 0), (.int .i64 0), (.int .i64 0), (.int .i64 0)]) w fun t9 w =>
          stW Tryz.prog 25 t9 t42 w fun w =>
          Drew w fun w =>
          binQ Tryz.prog w .gtr 3 true t1 (.int .i64 0) fun t44 =>
          gdQ t44 true (fun k => ld1 w t3 k) fun t46 =>
          gdQ t44 true (fun k => k t1) fun t47 =>
          gdQ t44 true (fun k => binQ Tryz.prog w .sub 3 true t47 (.int .i64 1) k) fun t48 =>
          gdQ t44 true (fun k => fa1 t6 0 k) fun t49 =>
          gdQ t44 true (fun k => iaA 4 1 t49 t48 k) fun t50 =>
          gdQ t44 true (fun k => ld1 w t50 k) fun t51 =>
          gdQ t44 true (fun k => iaS 4 t46 t51 k) fun t52 =>
          gdQ t44 true (fun k => fa1 t52 1 k) fun t53 =>
          gdQ t44 true (fun k => ld1 w t53 k) fun t54 =>
          gdQ t44 true (fun k => fa1 t9 3 k) fun t55 =>
          gdQ t44 true (fun k => ld1 w t55 k) fun t56 =>
          gdQ t44 true (fun k => binQ Tryz.prog w .neq 3 false t54 t56 k) fun t57 =>
          pickQ t44 t57 (.bool false) fun t58 =>
          condW t58 (
            k_2 w
          ) (
            ldN 7 w t6 fun t59 =>
            boxW 89 (.agg #[(.int .i64 0), (.int .i64 0), (.int .i64 0), (.int .i64 0), (.int .i64 0), (.int .i64 0), (.bool false)]) w fun t10 w =>
            stW Tryz.prog 89 t10 t59 w fun w =>
            Drew w fun w =>
            ∃ X : Nat → Prop,
            takeX X w (fun w k => fa1 t6 4 k) fun t62 =>
            takeX X w (fun w k => ld1 w t62 k) fun t63 =>
            takeX X w (fun w k => binQ Tryz.prog w .mul 3 true t63 (.int .i64 8) k) fun t64 =>
            takeX X w (fun w k => fa1 t9 0 k) fun t65 =>
            takeX X w (fun w k => ld1 w t65 k) fun t66 =>
            takeX X w (fun w k => binQ Tryz.prog w .add 3 false t64 t66 k) fun t67 =>
            takeX X w (fun w k => fa1 t6 5 k) fun t68 =>
            takeX X w (fun w k => ld1 w t68 k) fun t69 =>
            takeX X w (fun w k => binQ Tryz.prog w .mul 3 true t69 (.int .i64 8) k) fun t70 =>
            takeX X w (fun w k => fa1 t9 2 k) fun t71 =>
            takeX X w (fun w k => ld1 w t71 k) fun t72 =>
            takeX X w (fun w k => binQ Tryz.prog w .add 3 false t70 t72 k) fun t73 =>
            fa1 t10 0 fun t74 =>
            iaA 4 1 t74 t1 fun t75 =>
            stW Tryz.prog 3 t75 t38 w <| keepW X w fun w =>
            takeX X w (fun w k => fa1 t10 4 k) fun t76 =>
            stW Tryz.prog 3 t76 t67 w <| keepW X w fun w =>
            takeX X w (fun w k => fa1 t10 5 k) fun t77 =>
            stW Tryz.prog 3 t77 t73 w fun w =>
            ld1 w t5 fun t78 =>
            ldN 7 w t10 fun t79 =>
            binQ Tryz.prog w .add 3 true t1 (.int .i64 1) fun t81 =>
            callW Tryz.prog t78 [t79, t81] w fun t82 w =>
            k_2 w
          )
        ) fun w =>
        binQ Tryz.prog w .add 3 true t38 (.int .i64 1) fun t83_2 =>
        next t83_2 w
      ) (
        R (.returned (.tuple #[])) w
      )
  )

def A45 : Ann where
  live := fun
    | 0 => [38]
    | _ => []
  wr := fun
    | 0 => fun i => (Nat.ble 8 i && Nat.ble i 10) || (Nat.ble 38 i && Nat.ble i 83)
    | _ => fun _ => false
  sched := fun
    | 2 => (.take 0 (.take 1 (.take 2 (.take 3 (.take 4 (.take 5 (.take 6 (.take 7 (.take 8 (.take 9 (.take 10 (.take 11 (.take 12 (.take 13 (.take 14 (.take 15 (.take 16 (.take 17 (.bar 18 .done)))))))))))))))))))
    | 7 => (.take 0 (.take 1 (.take 2 (.take 3 (.take 4 (.take 5 (.take 6 (.take 7 (.take 8 (.take 9 (.take 10 (.take 11 (.take 12 (.take 13 (.take 14 (.take 15 .done))))))))))))))))
    | 9 => (.cls (.take 0 (.take 1 (.take 2 (.take 3 (.take 4 (.take 5 (.take 6 (.take 7 (.take 8 (.take 9 (.take 10 (.take 11 (.take 12 (.take 13 (.take 14 (.take 15 (.eff 16 (.take 17 (.eff 18 (.take 19 (.bar 20 .done))))))))))))))))))))))
    | _ => .done

set_option maxRecDepth 100000 in
theorem ok45 : (codeOk Tryz.f45.ntmps A45 (Tryz.f45.body.getD .skip) 0 && Nat.ble 6 Tryz.f45.ntmps) = true := by kernel_rfl
set_option maxRecDepth 100000 in
theorem lift45 {t0 t1 t2 t3 t4 t5 : Value} {w : World} {R : Ending → World → Prop} (h : S45 t0 t1 t2 t3 t4 t5 w R) : Calls Tryz.prog 45 #[t0, t1, t2, t3, t4, t5] w R :=
  calls_of_cw (fn := Tryz.f45) (c := Tryz.f45.body.getD .skip) A45 mixes Tryz.func45 (by kernel_rfl) ok45
    ((by kernel_rfl : (S45 t0 t1 t2 t3 t4 t5 w R) = cw Tryz.prog A45 (Tryz.f45.body.getD .skip) 0 (bodyQ Tryz.prog Tryz.f45 R) (frOf #[t0, t1, t2, t3, t4, t5]) w).mp h)

def S60 (t0 t1 : Value) (w : World) (R : Ending → World → Prop) : Prop :=
  boxW 25 t1 w fun t3 w =>
  ln1 t0 fun t7 =>
  Loop1 (.int .i64 0) w fun _ t8 w next =>
    binQ Tryz.prog w .lss 3 false t8 t7 fun t9 =>
    condW t9 (
      Drew w fun w =>
      ldN 4 w t3 fun t11 =>
      iaS 4 t0 t8 fun t14 =>
      ldN 4 w t14 fun t15 =>
      binQ Tryz.prog w .eql 25 false t11 t15 fun t16 =>
      condW t16 (
        R (.returned t8) w
      ) (
        binQ Tryz.prog w .add 3 true t8 (.int .i64 1) fun t18 =>
        next t18 w
      )
    ) (
      R (.returned (.int .i64 (-1))) w
    )

def A60 : Ann where
  live := fun
    | 0 => [8]
    | _ => []
  wr := fun
    | 0 => fun i => (Nat.ble 4 i && Nat.ble i 5) || (Nat.ble 8 i && Nat.ble i 18)
    | _ => fun _ => false
  sched := fun
    | 4 => (.take 0 (.take 1 (.take 2 (.take 3 (.take 4 (.take 5 .done))))))
    | _ => .done

set_option maxRecDepth 100000 in
theorem ok60 : (codeOk Tryz.f60.ntmps A60 (Tryz.f60.body.getD .skip) 0 && Nat.ble 2 Tryz.f60.ntmps) = true := by kernel_rfl
set_option maxRecDepth 100000 in
theorem lift60 {t0 t1 : Value} {w : World} {R : Ending → World → Prop} (h : S60 t0 t1 w R) : Calls Tryz.prog 60 #[t0, t1] w R :=
  calls_of_cw (fn := Tryz.f60) (c := Tryz.f60.body.getD .skip) A60 mixes Tryz.func60 (by kernel_rfl) ok60
    ((by kernel_rfl : (S60 t0 t1 w R) = cw Tryz.prog A60 (Tryz.f60.body.getD .skip) 0 (bodyQ Tryz.prog Tryz.f60 R) (frOf #[t0, t1]) w).mp h)

def S61L0 (t0 t1 t7 : Value) (R : Ending → World → Prop) (w : World) : Prop :=
  Loop1 (.int .i64 0) w fun _ t8 w next =>
    binQ Tryz.prog w .lss 3 false t8 t7 fun t9 =>
    condW t9 (
      iaS 7 t0 t8 fun t14 =>
      ldN 7 w t14 fun t15 =>
      callW Tryz.prog t1 [t15] w fun t16 w =>
      condW t16 (
        R (.returned t8) w
      ) (
        binQ Tryz.prog w .add 3 true t8 (.int .i64 1) fun t18 =>
        next t18 w
      )
    ) (
      R (.returned (.int .i64 (-1))) w
    )



def S61 (t0 t1 : Value) (w : World) (R : Ending → World → Prop) : Prop :=
  ln1 t0 fun t7 =>
  S61L0 t0 t1 t7 R w

def A61 : Ann where
  live := fun
    | 0 => [8]
    | _ => []
  wr := fun
    | 0 => fun i => (Nat.ble 4 i && Nat.ble i 5) || (Nat.ble 8 i && Nat.ble i 18)
    | _ => fun _ => false
  sched := fun _ => .done

set_option maxRecDepth 100000 in
theorem ok61 : (codeOk Tryz.f61.ntmps A61 (Tryz.f61.body.getD .skip) 0 && Nat.ble 2 Tryz.f61.ntmps) = true := by kernel_rfl
set_option maxRecDepth 100000 in
theorem lift61 {t0 t1 : Value} {w : World} {R : Ending → World → Prop} (h : S61 t0 t1 w R) : Calls Tryz.prog 61 #[t0, t1] w R :=
  calls_of_cw (fn := Tryz.f61) (c := Tryz.f61.body.getD .skip) A61 mixes Tryz.func61 (by kernel_rfl) ok61
    ((by kernel_rfl : (S61 t0 t1 w R) = cw Tryz.prog A61 (Tryz.f61.body.getD .skip) 0 (bodyQ Tryz.prog Tryz.f61 R) (frOf #[t0, t1]) w).mp h)

def S74 (t0 t1 : Value) (w : World) (R : Ending → World → Prop) : Prop :=
  binQ Tryz.prog w .and 157 true t0 (.int .u64 4294967295) fun t15 =>
  binQ Tryz.prog w .shr 157 true t0 (.int .u64 32) fun t17 =>
  binQ Tryz.prog w .and 157 true t1 (.int .u64 4294967295) fun t19 =>
  binQ Tryz.prog w .shr 157 true t1 (.int .u64 32) fun t21 =>
  binQ Tryz.prog w .mul 157 false t15 t19 fun t24 =>
  binQ Tryz.prog w .mul 157 false t17 t19 fun t27 =>
  binQ Tryz.prog w .shr 157 true t24 (.int .u64 32) fun t29 =>
  binQ Tryz.prog w .add 157 false t27 t29 fun t30 =>
  binQ Tryz.prog w .and 157 true t30 (.int .u64 4294967295) fun t32 =>
  binQ Tryz.prog w .shr 157 true t30 (.int .u64 32) fun t34 =>
  binQ Tryz.prog w .mul 157 false t15 t21 fun t38 =>
  binQ Tryz.prog w .add 157 false t32 t38 fun t39 =>
  binQ Tryz.prog w .mul 157 false t17 t21 fun t42 =>
  binQ Tryz.prog w .add 157 false t42 t34 fun t44 =>
  binQ Tryz.prog w .shr 157 true t39 (.int .u64 32) fun t46 =>
  binQ Tryz.prog w .add 157 false t44 t46 fun t47 =>
  binQ Tryz.prog w .mul 157 false t0 t1 fun t50 =>
  R (.returned (.tuple #[t47, t50])) w

def A74 : Ann where
  live := fun _ => []
  wr := fun _ _ => false
  sched := fun _ => .done

set_option maxRecDepth 100000 in
theorem ok74 : (codeOk Tryz.f74.ntmps A74 (Tryz.f74.body.getD .skip) 0 && Nat.ble 2 Tryz.f74.ntmps) = true := by kernel_rfl
set_option maxRecDepth 100000 in
theorem lift74 {t0 t1 : Value} {w : World} {R : Ending → World → Prop} (h : S74 t0 t1 w R) : Calls Tryz.prog 74 #[t0, t1] w R :=
  calls_of_cw (fn := Tryz.f74) (c := Tryz.f74.body.getD .skip) A74 mixes Tryz.func74 (by kernel_rfl) ok74
    ((by kernel_rfl : (S74 t0 t1 w R) = cw Tryz.prog A74 (Tryz.f74.body.getD .skip) 0 (bodyQ Tryz.prog Tryz.f74 R) (frOf #[t0, t1]) w).mp h)

theorem fok5 : fnOk Tryz.prog 5 = true := by kernel_rfl
theorem fok9 : fnOk Tryz.prog 9 = true := by kernel_rfl
theorem fok12 : fnOk Tryz.prog 12 = true := by kernel_rfl
theorem fok13 : fnOk Tryz.prog 13 = true := by kernel_rfl
theorem fok14 : fnOk Tryz.prog 14 = true := by kernel_rfl
theorem fok15 : fnOk Tryz.prog 15 = true := by kernel_rfl
theorem fok20 : fnOk Tryz.prog 20 = true := by kernel_rfl
theorem fok22 : fnOk Tryz.prog 22 = true := by kernel_rfl
theorem fok23 : fnOk Tryz.prog 23 = true := by kernel_rfl
theorem fok24 : fnOk Tryz.prog 24 = true := by kernel_rfl
theorem fok25 : fnOk Tryz.prog 25 = true := by kernel_rfl
theorem fok26 : fnOk Tryz.prog 26 = true := by kernel_rfl
theorem fok31 : fnOk Tryz.prog 31 = true := by kernel_rfl
theorem fok32 : fnOk Tryz.prog 32 = true := by kernel_rfl
theorem fok34 : fnOk Tryz.prog 34 = true := by kernel_rfl
theorem fok36 : fnOk Tryz.prog 36 = true := by kernel_rfl
theorem fok44 : fnOk Tryz.prog 44 = true := by kernel_rfl
theorem fok45 : fnOk Tryz.prog 45 = true := by kernel_rfl
theorem fok60 : fnOk Tryz.prog 60 = true := by kernel_rfl
theorem fok61 : fnOk Tryz.prog 61 = true := by kernel_rfl
theorem fok74 : fnOk Tryz.prog 74 = true := by kernel_rfl
end Go.Proofs.YtfmppkplmfbjpaaGreatDoor

/- Contracts: colours, sides, sets of tiles, their errors. -/
namespace Go.Proofs.YtfmppkplmfbjpaaGreatDoor
open Go.Lf Go.RowKit Go.Wg

def tlC (t : Tile) : List Value := [.int .i64 t.1, .int .i64 t.2.1, .int .i64 t.2.2.1, .int .i64 t.2.2.2]
abbrev tlV (t : Tile) : Value := .agg #[.int .i64 t.1, .int .i64 t.2.1, .int .i64 t.2.2.1, .int .i64 t.2.2.2]
theorem tlC_len (t : Tile) : (tlC t).length = 4 := rfl
/-- The slice v reads as the tiles l. -/
abbrev RdT (w : World) (v : Value) (l : List Tile) : Prop := Rd 4 tlC w v l

theorem RdT.tile {w : World} {v : Value} {l : List Tile} (h : RdT w v l) {i : Nat} (hi : i < l.length) :
    ∃ b off cap, v = .slice (some ⟨b, off, none⟩) l.length cap ∧ (∀ K : Value → Prop, ldN 4 w (.pointer (some ⟨b, off + i * 4, none⟩)) K = K (tlV (tl l i))) ∧
      w.cell? ⟨b, off + i * 4, none⟩ = some (.int .i64 (tN (tl l i))) ∧ w.cell? ⟨b, off + i * 4 + 1, none⟩ = some (.int .i64 (tE (tl l i))) ∧ w.cell? ⟨b, off + i * 4 + 2, none⟩ = some (.int .i64 (tS (tl l i))) ∧ w.cell? ⟨b, off + i * 4 + 3, none⟩ = some (.int .i64 (tW (tl l i))) := by
  have hx := tl_get hi
  obtain ⟨b, off, cap, e, _, hc⟩ := h.at hx
  refine ⟨b, off, cap, e, fun K => ?_, by simpa using hc 0 _ rfl, hc 1 _ rfl, hc 2 _ rfl, hc 3 _ rfl⟩
  exact r_ldCells (l := tlC (tl l i)) rfl hc

theorem colour_calls (n : Int) (w : World) : Calls Tryz.prog 31 #[.int .i64 n] w fun e w' => e = .returned (.bool (colB n)) ∧ w = w' := by
  refine lift31 ?_
  unfold S31
  by_cases h0 : 0 ≤ n
  · simp only [r_ln, r_pick, r_pickT, r_pickF, r_condT, r_condF, r_gdTT, r_gdFF, r_gdTF, r_gdFT, r_gqTT, r_gqFF, r_gqTF, r_gqFT, r_not, r_lss, r_leq, r_gtr, r_geq, r_eql, r_neq, r_add, r_sub, r_min2, r_max2, r_min3, r_max3, r_fa, r_iaS, r_iaA, r_ex2a, r_ex2b, r_ex3a, r_ex3b, r_ex3c, r_nc, r_keepE, Nat.zero_add, Nat.add_zero, Nat.mul_one, Int.toNat_natCast, toNat_sub1, toNat_add1, decide_true, decide_false, Bool.not_true, Bool.not_false, if_true, if_false, Bool.false_eq_true, reduceCtorEq, h0]
    exact ⟨ret_bool (by simp [colB, h0]), trivial⟩
  · simp only [r_ln, r_pick, r_pickT, r_pickF, r_condT, r_condF, r_gdTT, r_gdFF, r_gdTF, r_gdFT, r_gqTT, r_gqFF, r_gqTF, r_gqFT, r_not, r_lss, r_leq, r_gtr, r_geq, r_eql, r_neq, r_add, r_sub, r_min2, r_max2, r_min3, r_max3, r_fa, r_iaS, r_iaA, r_ex2a, r_ex2b, r_ex3a, r_ex3b, r_ex3c, r_nc, r_keepE, Nat.zero_add, Nat.add_zero, Nat.mul_one, Int.toNat_natCast, toNat_sub1, toNat_add1, decide_true, decide_false, Bool.not_true, Bool.not_false, if_true, if_false, Bool.false_eq_true, reduceCtorEq, h0]
    exact ⟨ret_bool (by simp [colB, h0]), trivial⟩
theorem refcolour_calls (n : Int) (w : World) : Calls Tryz.prog 31 #[.int .i64 n] w fun e w' => e = .returned (.bool (colB n)) ∧ w = w' := by
  refine lift31 ?_
  unfold S31
  by_cases h0 : 0 ≤ n
  · simp only [r_ln, r_pick, r_pickT, r_pickF, r_condT, r_condF, r_gdTT, r_gdFF, r_gdTF, r_gdFT, r_gqTT, r_gqFF, r_gqTF, r_gqFT, r_not, r_lss, r_leq, r_gtr, r_geq, r_eql, r_neq, r_add, r_sub, r_min2, r_max2, r_min3, r_max3, r_fa, r_iaS, r_iaA, r_ex2a, r_ex2b, r_ex3a, r_ex3b, r_ex3c, r_nc, r_keepE, Nat.zero_add, Nat.add_zero, Nat.mul_one, Int.toNat_natCast, toNat_sub1, toNat_add1, decide_true, decide_false, Bool.not_true, Bool.not_false, if_true, if_false, Bool.false_eq_true, reduceCtorEq, h0]
    exact ⟨ret_bool (by simp [colB, h0]), trivial⟩
  · simp only [r_ln, r_pick, r_pickT, r_pickF, r_condT, r_condF, r_gdTT, r_gdFF, r_gdTF, r_gdFT, r_gqTT, r_gqFF, r_gqTF, r_gqFT, r_not, r_lss, r_leq, r_gtr, r_geq, r_eql, r_neq, r_add, r_sub, r_min2, r_max2, r_min3, r_max3, r_fa, r_iaS, r_iaA, r_ex2a, r_ex2b, r_ex3a, r_ex3b, r_ex3c, r_nc, r_keepE, Nat.zero_add, Nat.add_zero, Nat.mul_one, Int.toNat_natCast, toNat_sub1, toNat_add1, decide_true, decide_false, Bool.not_true, Bool.not_false, if_true, if_false, Bool.false_eq_true, reduceCtorEq, h0]
    exact ⟨ret_bool (by simp [colB, h0]), trivial⟩
theorem side_calls (n : Int) (w : World) : Calls Tryz.prog 13 #[.int .i64 n] w fun e w' => e = .returned (.bool (sideB n)) ∧ w = w' := by
  refine lift13 ?_
  unfold S13
  by_cases h0 : 1 ≤ n
  · simp only [r_ln, r_pick, r_pickT, r_pickF, r_condT, r_condF, r_gdTT, r_gdFF, r_gdTF, r_gdFT, r_gqTT, r_gqFF, r_gqTF, r_gqFT, r_not, r_lss, r_leq, r_gtr, r_geq, r_eql, r_neq, r_add, r_sub, r_min2, r_max2, r_min3, r_max3, r_fa, r_iaS, r_iaA, r_ex2a, r_ex2b, r_ex3a, r_ex3b, r_ex3c, r_nc, r_keepE, Nat.zero_add, Nat.add_zero, Nat.mul_one, Int.toNat_natCast, toNat_sub1, toNat_add1, decide_true, decide_false, Bool.not_true, Bool.not_false, if_true, if_false, Bool.false_eq_true, reduceCtorEq, h0]
    exact ⟨ret_bool (by simp [sideB, h0]), trivial⟩
  · simp only [r_ln, r_pick, r_pickT, r_pickF, r_condT, r_condF, r_gdTT, r_gdFF, r_gdTF, r_gdFT, r_gqTT, r_gqFF, r_gqTF, r_gqFT, r_not, r_lss, r_leq, r_gtr, r_geq, r_eql, r_neq, r_add, r_sub, r_min2, r_max2, r_min3, r_max3, r_fa, r_iaS, r_iaA, r_ex2a, r_ex2b, r_ex3a, r_ex3b, r_ex3c, r_nc, r_keepE, Nat.zero_add, Nat.add_zero, Nat.mul_one, Int.toNat_natCast, toNat_sub1, toNat_add1, decide_true, decide_false, Bool.not_true, Bool.not_false, if_true, if_false, Bool.false_eq_true, reduceCtorEq, h0]
    exact ⟨ret_bool (by simp [sideB, h0]), trivial⟩
theorem size_calls (n : Int) (w : World) : Calls Tryz.prog 13 #[.int .i64 n] w fun e w' => e = .returned (.bool (sideB n)) ∧ w = w' := by
  refine lift13 ?_
  unfold S13
  by_cases h0 : 1 ≤ n
  · simp only [r_ln, r_pick, r_pickT, r_pickF, r_condT, r_condF, r_gdTT, r_gdFF, r_gdTF, r_gdFT, r_gqTT, r_gqFF, r_gqTF, r_gqFT, r_not, r_lss, r_leq, r_gtr, r_geq, r_eql, r_neq, r_add, r_sub, r_min2, r_max2, r_min3, r_max3, r_fa, r_iaS, r_iaA, r_ex2a, r_ex2b, r_ex3a, r_ex3b, r_ex3c, r_nc, r_keepE, Nat.zero_add, Nat.add_zero, Nat.mul_one, Int.toNat_natCast, toNat_sub1, toNat_add1, decide_true, decide_false, Bool.not_true, Bool.not_false, if_true, if_false, Bool.false_eq_true, reduceCtorEq, h0]
    exact ⟨ret_bool (by simp [sideB, h0]), trivial⟩
  · simp only [r_ln, r_pick, r_pickT, r_pickF, r_condT, r_condF, r_gdTT, r_gdFF, r_gdTF, r_gdFT, r_gqTT, r_gqFF, r_gqTF, r_gqFT, r_not, r_lss, r_leq, r_gtr, r_geq, r_eql, r_neq, r_add, r_sub, r_min2, r_max2, r_min3, r_max3, r_fa, r_iaS, r_iaA, r_ex2a, r_ex2b, r_ex3a, r_ex3b, r_ex3c, r_nc, r_keepE, Nat.zero_add, Nat.add_zero, Nat.mul_one, Int.toNat_natCast, toNat_sub1, toNat_add1, decide_true, decide_false, Bool.not_true, Bool.not_false, if_true, if_false, Bool.false_eq_true, reduceCtorEq, h0]
    exact ⟨ret_bool (by simp [sideB, h0]), trivial⟩

/-! ### equality of tiles -/

theorem eq32 (a b c d a' b' c' d' : Int) (w : World) : (Op.equalIn 10000 25 (tlV (a, b, c, d)) (tlV (a', b', c', d'))).run Tryz.prog w = .ok (a == a' && (b == b' && (c == c' && d == d'))) w := by
  have u3 := Tryz.underlying3
  have a3 := Tryz.isAgg3
  have z3 := Tryz.sizeOf3
  have hS : Tryz.prog.underlying 25 = some (.struct (Tryz.prog.fieldsOf 25)) := by kernel_rfl
  have hp : Tryz.prog.stoodInHeld 25 = false := by kernel_rfl
  rw [show (10000 : Nat) = 9999 + 1 from rfl, run_equalIn_agg w 9999 25 _ _ hS hp]
  simp only [Program.fieldsOf, Tryz.underlying25]
  go_simp
  by_cases h1 : a = a' <;> by_cases h2 : b = b' <;> by_cases h3 : c = c' <;> by_cases h4 : d = d' <;> simp [h1, h2, h3, h4]
theorem eq32_bool (p q : Tile) : (p.1 == q.1 && (p.2.1 == q.2.1 && (p.2.2.1 == q.2.2.1 && p.2.2.2 == q.2.2.2))) = decide (p = q) := by
  obtain ⟨a, b, c, d⟩ := p
  obtain ⟨a', b', c', d'⟩ := q
  by_cases h1 : a = a' <;> by_cases h2 : b = b' <;> by_cases h3 : c = c' <;> by_cases h4 : d = d' <;> simp [h1, h2, h3, h4]
theorem r_eq32 {w : World} {lit : Bool} (p q : Tile) (K : Value → Prop) : binQ Tryz.prog w .eql 25 lit (tlV p) (tlV q) K = K (.bool (decide (p = q))) := by
  have hg : Tryz.prog.eqGuardType Tryz.prog.depth 25 = false := by kernel_rfl
  have hrun : ∀ w, (semBin .eql 25 lit (tlV p) (tlV q)).run Tryz.prog w = .ok (.value (.bool (decide (p = q)))) w := fun w => by
    unfold semBin
    have := eq32 p.1 p.2.1 p.2.2.1 p.2.2.2 q.1 q.2.1 q.2.2.1 q.2.2.2 w
    rw [eq32_bool] at this
    simp [run_eqGuard_agg w _ _ _ _ _ _ hg, run_eql_struct, this]
  refine propext ⟨?_, fun h => ⟨_, fun w' _ => hrun w', h⟩⟩
  rintro ⟨v, hv, hk⟩
  have h1 := hv w (Below.refl _ _)
  rw [hrun] at h1
  injection h1 with h1 _
  injection h1 with h1
  rw [h1]; exact hk
theorem r_ne32 {w : World} {lit : Bool} (p q : Tile) (K : Value → Prop) : binQ Tryz.prog w .neq 25 lit (tlV p) (tlV q) K = K (.bool (!decide (p = q))) := by
  have hg : Tryz.prog.eqGuardType Tryz.prog.depth 25 = false := by kernel_rfl
  have hrun : ∀ w, (semBin .neq 25 lit (tlV p) (tlV q)).run Tryz.prog w = .ok (.value (.bool (!decide (p = q)))) w := fun w => by
    unfold semBin
    have := eq32 p.1 p.2.1 p.2.2.1 p.2.2.2 q.1 q.2.1 q.2.2.1 q.2.2.2 w
    rw [eq32_bool] at this
    simp [run_eqGuard_agg w _ _ _ _ _ _ hg, run_neq_struct, this]
  refine propext ⟨?_, fun h => ⟨_, fun w' _ => hrun w', h⟩⟩
  rintro ⟨v, hv, hk⟩
  have h1 := hv w (Below.refl _ _)
  rw [hrun] at h1
  injection h1 with h1 _
  injection h1 with h1
  rw [h1]; exact hk

/-! ### lists that are looked through -/

/-- The place of the first one, or -1. -/
def idxI {α : Type} [DecidableEq α] (l : List α) (x : α) : Int := if x ∈ l then ((l.idxOf x : Nat) : Int) else -1
theorem idx_first {α : Type} [DecidableEq α] {l : List α} {i : Nat} {x : α} (h : l[i]? = some x) (hn : x ∉ l.take i) : idxI l x = i := by
  have hm : x ∈ l := List.mem_of_getElem? h
  have hi : i < l.length := (List.getElem?_eq_some_iff.1 h).1
  have hlt := List.idxOf_lt_length_iff.2 hm
  have hg : l[l.idxOf x] = x := List.getElem_idxOf hlt
  rw [idxI, if_pos hm]
  congr 1
  rcases Nat.lt_trichotomy (l.idxOf x) i with h1 | h1 | h1
  · exact absurd (by rw [List.mem_take_iff_getElem]; exact ⟨l.idxOf x, by omega, hg⟩) hn
  · exact h1
  · have hx : l[i] = x := (List.getElem?_eq_some_iff.1 h).2
    have := List.not_of_lt_findIdx (p := fun y => y == x) (xs := l) (i := i) h1
    simp [hx] at this
theorem idx_nonneg {α : Type} [DecidableEq α] (l : List α) (x : α) : decide (0 ≤ idxI l x) = decide (x ∈ l) := by
  unfold idxI
  split
  · rename_i h; simp [h]
  · rename_i h; simp [h]

set_option maxRecDepth 100000 in
theorem index_calls {v : Value} {l : List Tile} (t : Tile) (w : World) (hr : RdT w v l) (hl : l.length ≤ 1000000) : Calls Tryz.prog 60 #[v, tlV t] w fun e w' => e = .returned (.int .i64 (idxI l t)) ∧ Kp w w' := by
  obtain ⟨a, cap, rfl, hcap⟩ := hr.len
  refine lift60 ?_
  unfold S60
  refine r_box fun b w1 hbw hsz hb hk => ?_
  simp only [r_ln, r_pick, r_pickT, r_pickF, r_condT, r_condF, r_gdTT, r_gdFF, r_gdTF, r_gdFT, r_gqTT, r_gqFF, r_gqTF, r_gqFT, r_not, r_lss, r_leq, r_gtr, r_geq, r_eql, r_neq, r_add, r_sub, r_min2, r_max2, r_min3, r_max3, r_fa, r_iaS, r_iaA, r_ex2a, r_ex2b, r_ex3a, r_ex3b, r_ex3c, r_nc, r_keepE, Nat.zero_add, Nat.add_zero, Nat.mul_one, Int.toNat_natCast, toNat_sub1, toNat_add1, decide_true, decide_false, Bool.not_true, Bool.not_false, if_true, if_false, Bool.false_eq_true, reduceCtorEq]
  refine ⟨fun t8 wr => ∃ i : Nat, i ≤ l.length ∧ t8 = .int .i64 i ∧ t ∉ l.take i ∧ Kp w1 wr, fun t8 _ => l.length - (intOf t8).toNat, ⟨0, by omega, rfl, by simp, Kp.refl _⟩, ?_⟩
  rintro _ _ wr ⟨i, hi, rfl, hn, hkr⟩
  by_cases hlt : i < l.length
  case neg =>
    have hlt' : ¬ (i : Int) < (l.length : Int) := by omega
    simp (disch := omega) only [r_ln, r_pick, r_pickT, r_pickF, r_condT, r_condF, r_gdTT, r_gdFF, r_gdTF, r_gdFT, r_gqTT, r_gqFF, r_gqTF, r_gqFT, r_not, r_lss, r_leq, r_gtr, r_geq, r_eql, r_neq, r_add, r_sub, r_min2, r_max2, r_min3, r_max3, r_fa, r_iaS, r_iaA, r_ex2a, r_ex2b, r_ex3a, r_ex3b, r_ex3c, r_nc, r_keepE, Nat.zero_add, Nat.add_zero, Nat.mul_one, Int.toNat_natCast, toNat_sub1, toNat_add1, decide_true, decide_false, Bool.not_true, Bool.not_false, if_true, if_false, Bool.false_eq_true, reduceCtorEq, hlt']
    rw [List.take_of_length_le (by omega)] at hn
    exact ⟨by rw [idxI, if_neg hn], Kp.trans hk hkr⟩
  have hlt' : (i : Int) < (l.length : Int) := by omega
  simp (disch := omega) only [r_ln, r_pick, r_pickT, r_pickF, r_condT, r_condF, r_gdTT, r_gdFF, r_gdTF, r_gdFT, r_gqTT, r_gqFF, r_gqTF, r_gqFT, r_not, r_lss, r_leq, r_gtr, r_geq, r_eql, r_neq, r_add, r_sub, r_min2, r_max2, r_min3, r_max3, r_fa, r_iaS, r_iaA, r_ex2a, r_ex2b, r_ex3a, r_ex3b, r_ex3c, r_nc, r_keepE, Nat.zero_add, Nat.add_zero, Nat.mul_one, Int.toNat_natCast, toNat_sub1, toNat_add1, decide_true, decide_false, Bool.not_true, Bool.not_false, if_true, if_false, Bool.false_eq_true, reduceCtorEq, hlt']
  refine r_drew fun wx kx _ => ?_
  have hkx := Kp.trans hkr kx
  obtain ⟨b1, o1, _, e1, hld, _⟩ := RdT.tile (hr.kp (Kp.trans hk hkx)) hlt
  cases e1
  have hb' := block_below hb hkx
  have hx := tl_get hlt
  have e4 : ∀ K : Value → Prop, ldN 4 wx (.pointer (some ⟨b, 0, none⟩)) K = K (tlV t) := fun K => r_ldRow (n := 4) hb' rfl
  by_cases he : t = tl l i
  · simp (disch := omega) only [r_ln, r_pick, r_pickT, r_pickF, r_condT, r_condF, r_gdTT, r_gdFF, r_gdTF, r_gdFT, r_gqTT, r_gqFF, r_gqTF, r_gqFT, r_not, r_lss, r_leq, r_gtr, r_geq, r_eql, r_neq, r_add, r_sub, r_min2, r_max2, r_min3, r_max3, r_fa, r_iaS, r_iaA, r_ex2a, r_ex2b, r_ex3a, r_ex3b, r_ex3c, r_nc, r_keepE, Nat.zero_add, Nat.add_zero, Nat.mul_one, Int.toNat_natCast, toNat_sub1, toNat_add1, decide_true, decide_false, Bool.not_true, Bool.not_false, if_true, if_false, Bool.false_eq_true, reduceCtorEq, hld, e4, r_eq32, decide_eq_true he]
    rw [← he] at hx
    exact ⟨by rw [idx_first hx hn], Kp.trans hk hkx⟩
  · simp (disch := omega) only [r_ln, r_pick, r_pickT, r_pickF, r_condT, r_condF, r_gdTT, r_gdFF, r_gdTF, r_gdFT, r_gqTT, r_gqFF, r_gqTF, r_gqFT, r_not, r_lss, r_leq, r_gtr, r_geq, r_eql, r_neq, r_add, r_sub, r_min2, r_max2, r_min3, r_max3, r_fa, r_iaS, r_iaA, r_ex2a, r_ex2b, r_ex3a, r_ex3b, r_ex3c, r_nc, r_keepE, Nat.zero_add, Nat.add_zero, Nat.mul_one, Int.toNat_natCast, toNat_sub1, toNat_add1, decide_true, decide_false, Bool.not_true, Bool.not_false, if_true, if_false, Bool.false_eq_true, reduceCtorEq, hld, e4, r_eq32, decide_eq_false he]
    refine ⟨⟨i + 1, by omega, by go_num, ?_, hkx⟩, by simp only [intOf]; omega⟩
    rw [List.take_add_one, hx]
    simp [hn, he]

set_option maxRecDepth 100000 in
theorem contains_calls {v : Value} {l : List Tile} (t : Tile) (w : World) (hr : RdT w v l) (hl : l.length ≤ 1000000) : Calls Tryz.prog 32 #[v, tlV t] w fun e w' => e = .returned (.bool (decide (t ∈ l))) ∧ Kp w w' := by
  refine lift32 ?_
  unfold S32
  refine r_box fun b w1 hbw hsz hb hk => ?_
  rw [r_ldRow (n := 4) hb rfl]
  refine r_use fok60 (index_calls t w1 (hr.kp hk) hl) rfl ?_
  rintro _ w2 ⟨rfl, k2⟩
  refine ⟨_, rfl, ?_⟩
  simp only [r_ln, r_pick, r_pickT, r_pickF, r_condT, r_condF, r_gdTT, r_gdFF, r_gdTF, r_gdFT, r_gqTT, r_gqFF, r_gqTF, r_gqFT, r_not, r_lss, r_leq, r_gtr, r_geq, r_eql, r_neq, r_add, r_sub, r_min2, r_max2, r_min3, r_max3, r_fa, r_iaS, r_iaA, r_ex2a, r_ex2b, r_ex3a, r_ex3b, r_ex3c, r_nc, r_keepE, Nat.zero_add, Nat.add_zero, Nat.mul_one, Int.toNat_natCast, toNat_sub1, toNat_add1, decide_true, decide_false, Bool.not_true, Bool.not_false, if_true, if_false, Bool.false_eq_true, reduceCtorEq, idx_nonneg]
  exact ⟨ret_bool (decide_eq_decide.2 Iff.rfl), Kp.trans hk k2⟩

set_option maxRecDepth 100000 in
/-- valid: are tiles a set? -/
theorem valid_calls {v : Value} {l : List Tile} (w : World) (hr : RdT w v l) : Calls Tryz.prog 12 #[v] w fun e w' => e = .returned (.bool (setB l)) ∧ Kp w w' := by
  obtain ⟨a, cap, rfl, hcap⟩ := hr.len
  refine lift12 ?_
  unfold S12
  by_cases h1 : (l.length : Int) < 1
  · simp (disch := omega) only [r_ln, r_pick, r_pickT, r_pickF, r_condT, r_condF, r_gdTT, r_gdFF, r_gdTF, r_gdFT, r_gqTT, r_gqFF, r_gqTF, r_gqFT, r_not, r_lss, r_leq, r_gtr, r_geq, r_eql, r_neq, r_add, r_sub, r_min2, r_max2, r_min3, r_max3, r_fa, r_iaS, r_iaA, r_ex2a, r_ex2b, r_ex3a, r_ex3b, r_ex3c, r_nc, r_keepE, Nat.zero_add, Nat.add_zero, Nat.mul_one, Int.toNat_natCast, toNat_sub1, toNat_add1, decide_true, decide_false, Bool.not_true, Bool.not_false, if_true, if_false, Bool.false_eq_true, reduceCtorEq, h1]
    exact ⟨ret_bool (by have : l.length = 0 := by omega
                        simp [setB, this]), Kp.refl _⟩
  by_cases h2 : (16 : Int) < l.length
  · simp (disch := omega) only [r_ln, r_pick, r_pickT, r_pickF, r_condT, r_condF, r_gdTT, r_gdFF, r_gdTF, r_gdFT, r_gqTT, r_gqFF, r_gqTF, r_gqFT, r_not, r_lss, r_leq, r_gtr, r_geq, r_eql, r_neq, r_add, r_sub, r_min2, r_max2, r_min3, r_max3, r_fa, r_iaS, r_iaA, r_ex2a, r_ex2b, r_ex3a, r_ex3b, r_ex3c, r_nc, r_keepE, Nat.zero_add, Nat.add_zero, Nat.mul_one, Int.toNat_natCast, toNat_sub1, toNat_add1, decide_true, decide_false, Bool.not_true, Bool.not_false, if_true, if_false, Bool.false_eq_true, reduceCtorEq, h1, h2]
    exact ⟨ret_bool (by have : ¬ l.length ≤ 16 := by omega
                        simp [setB, this]), Kp.refl _⟩
  simp (disch := omega) only [r_ln, r_pick, r_pickT, r_pickF, r_condT, r_condF, r_gdTT, r_gdFF, r_gdTF, r_gdFT, r_gqTT, r_gqFF, r_gqTF, r_gqFT, r_not, r_lss, r_leq, r_gtr, r_geq, r_eql, r_neq, r_add, r_sub, r_min2, r_max2, r_min3, r_max3, r_fa, r_iaS, r_iaA, r_ex2a, r_ex2b, r_ex3a, r_ex3b, r_ex3c, r_nc, r_keepE, Nat.zero_add, Nat.add_zero, Nat.mul_one, Int.toNat_natCast, toNat_sub1, toNat_add1, decide_true, decide_false, Bool.not_true, Bool.not_false, if_true, if_false, Bool.false_eq_true, reduceCtorEq, h1, h2]
  refine ⟨fun t15 wr => ∃ i : Nat, i ≤ l.length ∧ t15 = .int .i64 i ∧ (∀ k, k < i → (colsB (tl l k) && !decide (tl l k ∈ l.take k)) = true) ∧ Kp w wr, fun t15 _ => l.length - (intOf t15).toNat, ⟨0, by omega, rfl, fun k hk => absurd hk (by omega), Kp.refl _⟩, ?_⟩
  rintro _ _ wr ⟨i, hi, rfl, hn, hkr⟩
  by_cases hlt : i < l.length
  case neg =>
    have hlt' : ¬ (i : Int) < (l.length : Int) := by omega
    simp (disch := omega) only [r_ln, r_pick, r_pickT, r_pickF, r_condT, r_condF, r_gdTT, r_gdFF, r_gdTF, r_gdFT, r_gqTT, r_gqFF, r_gqTF, r_gqFT, r_not, r_lss, r_leq, r_gtr, r_geq, r_eql, r_neq, r_add, r_sub, r_min2, r_max2, r_min3, r_max3, r_fa, r_iaS, r_iaA, r_ex2a, r_ex2b, r_ex3a, r_ex3b, r_ex3c, r_nc, r_keepE, Nat.zero_add, Nat.add_zero, Nat.mul_one, Int.toNat_natCast, toNat_sub1, toNat_add1, decide_true, decide_false, Bool.not_true, Bool.not_false, if_true, if_false, Bool.false_eq_true, reduceCtorEq, hlt']
    refine ⟨ret_bool ?_, hkr⟩
    symm
    simp only [setB, freshB, Bool.and_eq_true, decide_eq_true_eq, List.all_eq_true, List.mem_range]
    exact ⟨⟨by omega, by omega⟩, fun k hk => by have := hn k (by omega); simpa using this⟩
  have hlt' : (i : Int) < (l.length : Int) := by omega
  obtain ⟨b1, o1, _, e1, hld, _⟩ := RdT.tile (hr.kp hkr) hlt
  cases e1
  simp (disch := omega) only [r_ln, r_pick, r_pickT, r_pickF, r_condT, r_condF, r_gdTT, r_gdFF, r_gdTF, r_gdFT, r_gqTT, r_gqFF, r_gqTF, r_gqFT, r_not, r_lss, r_leq, r_gtr, r_geq, r_eql, r_neq, r_add, r_sub, r_min2, r_max2, r_min3, r_max3, r_fa, r_iaS, r_iaA, r_ex2a, r_ex2b, r_ex3a, r_ex3b, r_ex3c, r_nc, r_keepE, Nat.zero_add, Nat.add_zero, Nat.mul_one, Int.toNat_natCast, toNat_sub1, toNat_add1, decide_true, decide_false, Bool.not_true, Bool.not_false, if_true, if_false, Bool.false_eq_true, reduceCtorEq, hlt', hld]
  refine r_box fun b4 w1 e4 s4 h4 k4 => ?_
  refine r_stAll (n := 4) (ty := 25) (by kernel_rfl) rfl (by intro u hu; simp [Value.cells] at hu; rcases hu with rfl | rfl | rfl | rfl <;> rfl) h4 rfl fun w2 c2 s2 h2' => ?_
  have k02 : Kp wr w2 := Kp.of_chg k4 c2 fun i e => by omega
  refine r_drew fun w3 k3 _ => ?_
  have k03 := Kp.trans k02 k3
  have h3 := block_below h2' k3
  have cN : w3.cell? ⟨b4, 0, none⟩ = some (.int .i64 (tN (tl l i))) := by rw [cell_row h3]; rfl
  have cE : w3.cell? ⟨b4, 1, none⟩ = some (.int .i64 (tE (tl l i))) := by rw [cell_row h3]; rfl
  have cS : w3.cell? ⟨b4, 2, none⟩ = some (.int .i64 (tS (tl l i))) := by rw [cell_row h3]; rfl
  have cW : w3.cell? ⟨b4, 3, none⟩ = some (.int .i64 (tW (tl l i))) := by rw [cell_row h3]; rfl
  have bad : (colsB (tl l i) && !decide (tl l i ∈ l.take i)) = false → (setB l) = false := fun hb => by
    cases hs : setB l
    · rfl
    · simp only [setB, freshB, Bool.and_eq_true, decide_eq_true_eq, List.all_eq_true, List.mem_range] at hs
      have := hs.2 i hlt
      rw [this.1, this.2] at hb
      cases hb
  simp (disch := omega) only [r_ln, r_pick, r_pickT, r_pickF, r_condT, r_condF, r_gdTT, r_gdFF, r_gdTF, r_gdFT, r_gqTT, r_gqFF, r_gqTF, r_gqFT, r_not, r_lss, r_leq, r_gtr, r_geq, r_eql, r_neq, r_add, r_sub, r_min2, r_max2, r_min3, r_max3, r_fa, r_iaS, r_iaA, r_ex2a, r_ex2b, r_ex3a, r_ex3b, r_ex3c, r_nc, r_keepE, Nat.zero_add, Nat.add_zero, Nat.mul_one, Int.toNat_natCast, toNat_sub1, toNat_add1, decide_true, decide_false, Bool.not_true, Bool.not_false, if_true, if_false, Bool.false_eq_true, reduceCtorEq, r_ld cN]
  refine r_use fok31 (colour_calls _ w3) rfl ?_
  rintro _ _ ⟨rfl, rfl⟩
  refine ⟨_, rfl, Below.refl _ _, ?_⟩
  have hcols : colsB (tl l i) = (colB (tN (tl l i)) && colB (tE (tl l i)) && colB (tS (tl l i)) && colB (tW (tl l i))) := rfl
  have kall : Kp w w3 := Kp.trans hkr k03
  cases b1 : colB (tN (tl l i)) with
  | false =>
    simp (disch := omega) only [r_ln, r_pick, r_pickT, r_pickF, r_condT, r_condF, r_gdTT, r_gdFF, r_gdTF, r_gdFT, r_gqTT, r_gqFF, r_gqTF, r_gqFT, r_not, r_lss, r_leq, r_gtr, r_geq, r_eql, r_neq, r_add, r_sub, r_min2, r_max2, r_min3, r_max3, r_fa, r_iaS, r_iaA, r_ex2a, r_ex2b, r_ex3a, r_ex3b, r_ex3c, r_nc, r_keepE, Nat.zero_add, Nat.add_zero, Nat.mul_one, Int.toNat_natCast, toNat_sub1, toNat_add1, decide_true, decide_false, Bool.not_true, Bool.not_false, if_true, if_false, Bool.false_eq_true, reduceCtorEq]
    exact ⟨Below.refl _ _, Below.refl _ _, ret_bool (bad (by simp [hcols, b1])).symm, kall⟩
  | true =>
  simp (disch := omega) only [r_ln, r_pick, r_pickT, r_pickF, r_condT, r_condF, r_gdTT, r_gdFF, r_gdTF, r_gdFT, r_gqTT, r_gqFF, r_gqTF, r_gqFT, r_not, r_lss, r_leq, r_gtr, r_geq, r_eql, r_neq, r_add, r_sub, r_min2, r_max2, r_min3, r_max3, r_fa, r_iaS, r_iaA, r_ex2a, r_ex2b, r_ex3a, r_ex3b, r_ex3c, r_nc, r_keepE, Nat.zero_add, Nat.add_zero, Nat.mul_one, Int.toNat_natCast, toNat_sub1, toNat_add1, decide_true, decide_false, Bool.not_true, Bool.not_false, if_true, if_false, Bool.false_eq_true, reduceCtorEq, r_ld cE]
  refine r_use fok31 (colour_calls _ w3) rfl ?_
  rintro _ _ ⟨rfl, rfl⟩
  refine ⟨_, rfl, ?_⟩
  cases b2 : colB (tE (tl l i)) with
  | false =>
    simp (disch := omega) only [r_ln, r_pick, r_pickT, r_pickF, r_condT, r_condF, r_gdTT, r_gdFF, r_gdTF, r_gdFT, r_gqTT, r_gqFF, r_gqTF, r_gqFT, r_not, r_lss, r_leq, r_gtr, r_geq, r_eql, r_neq, r_add, r_sub, r_min2, r_max2, r_min3, r_max3, r_fa, r_iaS, r_iaA, r_ex2a, r_ex2b, r_ex3a, r_ex3b, r_ex3c, r_nc, r_keepE, Nat.zero_add, Nat.add_zero, Nat.mul_one, Int.toNat_natCast, toNat_sub1, toNat_add1, decide_true, decide_false, Bool.not_true, Bool.not_false, if_true, if_false, Bool.false_eq_true, reduceCtorEq]
    exact ⟨Below.refl _ _, Below.refl _ _, ret_bool (bad (by simp [hcols, b2])).symm, kall⟩
  | true =>
  simp (disch := omega) only [r_ln, r_pick, r_pickT, r_pickF, r_condT, r_condF, r_gdTT, r_gdFF, r_gdTF, r_gdFT, r_gqTT, r_gqFF, r_gqTF, r_gqFT, r_not, r_lss, r_leq, r_gtr, r_geq, r_eql, r_neq, r_add, r_sub, r_min2, r_max2, r_min3, r_max3, r_fa, r_iaS, r_iaA, r_ex2a, r_ex2b, r_ex3a, r_ex3b, r_ex3c, r_nc, r_keepE, Nat.zero_add, Nat.add_zero, Nat.mul_one, Int.toNat_natCast, toNat_sub1, toNat_add1, decide_true, decide_false, Bool.not_true, Bool.not_false, if_true, if_false, Bool.false_eq_true, reduceCtorEq, r_ld cS]
  refine r_use fok31 (colour_calls _ w3) rfl ?_
  rintro _ _ ⟨rfl, rfl⟩
  refine ⟨_, rfl, ?_⟩
  cases b3 : colB (tS (tl l i)) with
  | false =>
    simp (disch := omega) only [r_ln, r_pick, r_pickT, r_pickF, r_condT, r_condF, r_gdTT, r_gdFF, r_gdTF, r_gdFT, r_gqTT, r_gqFF, r_gqTF, r_gqFT, r_not, r_lss, r_leq, r_gtr, r_geq, r_eql, r_neq, r_add, r_sub, r_min2, r_max2, r_min3, r_max3, r_fa, r_iaS, r_iaA, r_ex2a, r_ex2b, r_ex3a, r_ex3b, r_ex3c, r_nc, r_keepE, Nat.zero_add, Nat.add_zero, Nat.mul_one, Int.toNat_natCast, toNat_sub1, toNat_add1, decide_true, decide_false, Bool.not_true, Bool.not_false, if_true, if_false, Bool.false_eq_true, reduceCtorEq]
    exact ⟨Below.refl _ _, Below.refl _ _, ret_bool (bad (by simp [hcols, b3])).symm, kall⟩
  | true =>
  simp (disch := omega) only [r_ln, r_pick, r_pickT, r_pickF, r_condT, r_condF, r_gdTT, r_gdFF, r_gdTF, r_gdFT, r_gqTT, r_gqFF, r_gqTF, r_gqFT, r_not, r_lss, r_leq, r_gtr, r_geq, r_eql, r_neq, r_add, r_sub, r_min2, r_max2, r_min3, r_max3, r_fa, r_iaS, r_iaA, r_ex2a, r_ex2b, r_ex3a, r_ex3b, r_ex3c, r_nc, r_keepE, Nat.zero_add, Nat.add_zero, Nat.mul_one, Int.toNat_natCast, toNat_sub1, toNat_add1, decide_true, decide_false, Bool.not_true, Bool.not_false, if_true, if_false, Bool.false_eq_true, reduceCtorEq, r_ld cW]
  refine r_use fok31 (colour_calls _ w3) rfl ?_
  rintro _ _ ⟨rfl, rfl⟩
  refine ⟨_, rfl, Below.refl _ _, ?_⟩
  cases b4' : colB (tW (tl l i)) with
  | false =>
    simp (disch := omega) only [r_ln, r_pick, r_pickT, r_pickF, r_condT, r_condF, r_gdTT, r_gdFF, r_gdTF, r_gdFT, r_gqTT, r_gqFF, r_gqTF, r_gqFT, r_not, r_lss, r_leq, r_gtr, r_geq, r_eql, r_neq, r_add, r_sub, r_min2, r_max2, r_min3, r_max3, r_fa, r_iaS, r_iaA, r_ex2a, r_ex2b, r_ex3a, r_ex3b, r_ex3c, r_nc, r_keepE, Nat.zero_add, Nat.add_zero, Nat.mul_one, Int.toNat_natCast, toNat_sub1, toNat_add1, decide_true, decide_false, Bool.not_true, Bool.not_false, if_true, if_false, Bool.false_eq_true, reduceCtorEq]
    exact ⟨Below.refl _ _, ret_bool (bad (by simp [hcols, b4'])).symm, kall⟩
  | true =>
  simp (disch := omega) only [r_ln, r_pick, r_pickT, r_pickF, r_condT, r_condF, r_gdTT, r_gdFF, r_gdTF, r_gdFT, r_gqTT, r_gqFF, r_gqTF, r_gqFT, r_not, r_lss, r_leq, r_gtr, r_geq, r_eql, r_neq, r_add, r_sub, r_min2, r_max2, r_min3, r_max3, r_fa, r_iaS, r_iaA, r_ex2a, r_ex2b, r_ex3a, r_ex3b, r_ex3c, r_nc, r_keepE, Nat.zero_add, Nat.add_zero, Nat.mul_one, Int.toNat_natCast, toNat_sub1, toNat_add1, decide_true, decide_false, Bool.not_true, Bool.not_false, if_true, if_false, Bool.false_eq_true, reduceCtorEq, r_slTo, r_ldRow (n := 4) h3 rfl]
  refine r_use fok32 (contains_calls (l := l.take i) (tl l i) w3 ((hr.kp (Kp.trans hkr k03)).take hi) (by rw [List.length_take]; omega)) rfl ?_
  rintro _ w5 ⟨rfl, k5⟩
  refine ⟨_, rfl, k5, ?_⟩
  have kall5 := Kp.trans kall k5
  cases b5 : decide (tl l i ∈ l.take i) with
  | true =>
    simp (disch := omega) only [r_ln, r_pick, r_pickT, r_pickF, r_condT, r_condF, r_gdTT, r_gdFF, r_gdTF, r_gdFT, r_gqTT, r_gqFF, r_gqTF, r_gqFT, r_not, r_lss, r_leq, r_gtr, r_geq, r_eql, r_neq, r_add, r_sub, r_min2, r_max2, r_min3, r_max3, r_fa, r_iaS, r_iaA, r_ex2a, r_ex2b, r_ex3a, r_ex3b, r_ex3c, r_nc, r_keepE, Nat.zero_add, Nat.add_zero, Nat.mul_one, Int.toNat_natCast, toNat_sub1, toNat_add1, decide_true, decide_false, Bool.not_true, Bool.not_false, if_true, if_false, Bool.false_eq_true, reduceCtorEq]
    exact ⟨ret_bool (bad (by simp [b5])).symm, kall5⟩
  | false =>
  simp (disch := omega) only [r_ln, r_pick, r_pickT, r_pickF, r_condT, r_condF, r_gdTT, r_gdFF, r_gdTF, r_gdFT, r_gqTT, r_gqFF, r_gqTF, r_gqFT, r_not, r_lss, r_leq, r_gtr, r_geq, r_eql, r_neq, r_add, r_sub, r_min2, r_max2, r_min3, r_max3, r_fa, r_iaS, r_iaA, r_ex2a, r_ex2b, r_ex3a, r_ex3b, r_ex3c, r_nc, r_keepE, Nat.zero_add, Nat.add_zero, Nat.mul_one, Int.toNat_natCast, toNat_sub1, toNat_add1, decide_true, decide_false, Bool.not_true, Bool.not_false, if_true, if_false, Bool.false_eq_true, reduceCtorEq]
  refine ⟨⟨i + 1, by omega, by go_num, fun k hk => ?_, kall5⟩, by simp only [intOf]; omega⟩
  by_cases hki : k < i
  · exact hn k hki
  · have : k = i := by omega
    subst this
    simp [hcols, b1, b2, b3, b4', b5]

end Go.Proofs.YtfmppkplmfbjpaaGreatDoor
