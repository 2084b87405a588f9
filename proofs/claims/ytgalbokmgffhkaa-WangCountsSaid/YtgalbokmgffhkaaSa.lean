/- Lifted texts, printed by program (gen.py): what each function's code asks. The ties are by the kernel. -/
import Derived.Test.YtgalbokmgffhkaaBase
set_option linter.all false
namespace Go.Proofs.Ytgalbokmgffhkaa
open Go.Lf Go.RowKit

def S56 (t0 : Value) (w : World) (R : Ending → World → Prop) : Prop :=
  binQ Try.prog w .geq 3 true t0 (.int .i64 0) fun t4 =>
  gd t4 true (fun k => k t0 w) w fun t6 w =>
  gd t4 true (fun k => binQ Try.prog w .leq 3 true t6 (.int .i64 7) fun v => k v w) w fun t7 w =>
  pickQ t4 t7 (.bool false) fun t8 =>
  R (.returned t8) w

def A56 : Ann where
  live := fun _ => []
  wr := fun _ _ => false
  sched := fun _ => .done

set_option maxRecDepth 100000 in
theorem ok56 : (codeOk Try.f56.ntmps A56 (Try.f56.body.getD .skip) 0 && Nat.ble 1 Try.f56.ntmps) = true := by kernel_rfl
set_option maxRecDepth 100000 in
theorem lift56 {t0 : Value} {w : World} {R : Ending → World → Prop} (h : S56 t0 w R) : Calls Try.prog 56 #[t0] w R :=
  calls_of_cw (fn := Try.f56) (c := Try.f56.body.getD .skip) A56 mixes Try.func56 (by kernel_rfl) ok56
    ((by kernel_rfl : (S56 t0 w R) = cw Try.prog A56 (Try.f56.body.getD .skip) 0 (bodyQ Try.prog Try.f56 R) (frOf #[t0]) w).mp h)

def S62 (t0 : Value) (w : World) (R : Ending → World → Prop) : Prop :=
  binQ Try.prog w .geq 3 true t0 (.int .i64 0) fun t4 =>
  gd t4 true (fun k => k t0 w) w fun t6 w =>
  gd t4 true (fun k => binQ Try.prog w .leq 3 true t6 (.int .i64 7) fun v => k v w) w fun t7 w =>
  pickQ t4 t7 (.bool false) fun t8 =>
  R (.returned t8) w

def A62 : Ann where
  live := fun _ => []
  wr := fun _ _ => false
  sched := fun _ => .done

set_option maxRecDepth 100000 in
theorem ok62 : (codeOk Try.f62.ntmps A62 (Try.f62.body.getD .skip) 0 && Nat.ble 1 Try.f62.ntmps) = true := by kernel_rfl
set_option maxRecDepth 100000 in
theorem lift62 {t0 : Value} {w : World} {R : Ending → World → Prop} (h : S62 t0 w R) : Calls Try.prog 62 #[t0] w R :=
  calls_of_cw (fn := Try.f62) (c := Try.f62.body.getD .skip) A62 mixes Try.func62 (by kernel_rfl) ok62
    ((by kernel_rfl : (S62 t0 w R) = cw Try.prog A62 (Try.f62.body.getD .skip) 0 (bodyQ Try.prog Try.f62 R) (frOf #[t0]) w).mp h)

def S66 (t0 : Value) (w : World) (R : Ending → World → Prop) : Prop :=
  binQ Try.prog w .geq 3 true t0 (.int .i64 1) fun t4 =>
  gd t4 true (fun k => k t0 w) w fun t6 w =>
  gd t4 true (fun k => binQ Try.prog w .leq 3 true t6 (.int .i64 4) fun v => k v w) w fun t7 w =>
  pickQ t4 t7 (.bool false) fun t8 =>
  R (.returned t8) w

def A66 : Ann where
  live := fun _ => []
  wr := fun _ _ => false
  sched := fun _ => .done

set_option maxRecDepth 100000 in
theorem ok66 : (codeOk Try.f66.ntmps A66 (Try.f66.body.getD .skip) 0 && Nat.ble 1 Try.f66.ntmps) = true := by kernel_rfl
set_option maxRecDepth 100000 in
theorem lift66 {t0 : Value} {w : World} {R : Ending → World → Prop} (h : S66 t0 w R) : Calls Try.prog 66 #[t0] w R :=
  calls_of_cw (fn := Try.f66) (c := Try.f66.body.getD .skip) A66 mixes Try.func66 (by kernel_rfl) ok66
    ((by kernel_rfl : (S66 t0 w R) = cw Try.prog A66 (Try.f66.body.getD .skip) 0 (bodyQ Try.prog Try.f66 R) (frOf #[t0]) w).mp h)

def S68 (t0 : Value) (w : World) (R : Ending → World → Prop) : Prop :=
  binQ Try.prog w .geq 3 true t0 (.int .i64 1) fun t4 =>
  gd t4 true (fun k => k t0 w) w fun t6 w =>
  gd t4 true (fun k => binQ Try.prog w .leq 3 true t6 (.int .i64 4) fun v => k v w) w fun t7 w =>
  pickQ t4 t7 (.bool false) fun t8 =>
  R (.returned t8) w

def A68 : Ann where
  live := fun _ => []
  wr := fun _ _ => false
  sched := fun _ => .done

set_option maxRecDepth 100000 in
theorem ok68 : (codeOk Try.f68.ntmps A68 (Try.f68.body.getD .skip) 0 && Nat.ble 1 Try.f68.ntmps) = true := by kernel_rfl
set_option maxRecDepth 100000 in
theorem lift68 {t0 : Value} {w : World} {R : Ending → World → Prop} (h : S68 t0 w R) : Calls Try.prog 68 #[t0] w R :=
  calls_of_cw (fn := Try.f68) (c := Try.f68.body.getD .skip) A68 mixes Try.func68 (by kernel_rfl) ok68
    ((by kernel_rfl : (S68 t0 w R) = cw Try.prog A68 (Try.f68.body.getD .skip) 0 (bodyQ Try.prog Try.f68 R) (frOf #[t0]) w).mp h)

def S117 (t0 t1 : Value) (w : World) (R : Ending → World → Prop) : Prop :=
  boxW 32 t1 w fun t3 w =>
  ln1 t0 fun t7 =>
  Loop1 (.int .i64 0) w fun _ t8 w next =>
    binQ Try.prog w .lss 3 false t8 t7 fun t9 =>
    condW t9 (
      Drew w fun w =>
      ldN 4 w t3 fun t11 =>
      iaS 4 t0 t8 fun t14 =>
      ldN 4 w t14 fun t15 =>
      binQ Try.prog w .eql 32 false t11 t15 fun t16 =>
      condW t16 (
        R (.returned t8) w
      ) (
        binQ Try.prog w .add 3 true t8 (.int .i64 1) fun t18 =>
        next t18 w
      )
    ) (
      R (.returned (.int .i64 (-1))) w
    )

def A117 : Ann where
  live := fun
    | 0 => [8]
    | _ => []
  wr := fun
    | 0 => fun i => (Nat.ble 4 i && Nat.ble i 5) || (Nat.ble 8 i && Nat.ble i 18)
    | _ => fun _ => false
  sched := fun
    | 4 => (.take 0 (.take 1 (.take 2 (.take 3 (.take 4 (.take 5 .done))))))
    | _ => .done

set_option maxRecDepth 100000 in
theorem ok117 : (codeOk Try.f117.ntmps A117 (Try.f117.body.getD .skip) 0 && Nat.ble 2 Try.f117.ntmps) = true := by kernel_rfl
set_option maxRecDepth 100000 in
theorem lift117 {t0 t1 : Value} {w : World} {R : Ending → World → Prop} (h : S117 t0 t1 w R) : Calls Try.prog 117 #[t0, t1] w R :=
  calls_of_cw (fn := Try.f117) (c := Try.f117.body.getD .skip) A117 mixes Try.func117 (by kernel_rfl) ok117
    ((by kernel_rfl : (S117 t0 t1 w R) = cw Try.prog A117 (Try.f117.body.getD .skip) 0 (bodyQ Try.prog Try.f117 R) (frOf #[t0, t1]) w).mp h)

def S100 (t0 t1 : Value) (w : World) (R : Ending → World → Prop) : Prop :=
  boxW 32 t1 w fun t3 w =>
  ldN 4 w t3 fun t6 =>
  callW Try.prog (.func (.func 117) #[] #[]) [t0, t6] w fun t7 w =>
  binQ Try.prog w .geq 3 true t7 (.int .i64 0) fun t8 =>
  R (.returned t8) w

def A100 : Ann where
  live := fun _ => []
  wr := fun _ _ => false
  sched := fun _ => .done

set_option maxRecDepth 100000 in
theorem ok100 : (codeOk Try.f100.ntmps A100 (Try.f100.body.getD .skip) 0 && Nat.ble 2 Try.f100.ntmps) = true := by kernel_rfl
set_option maxRecDepth 100000 in
theorem lift100 {t0 t1 : Value} {w : World} {R : Ending → World → Prop} (h : S100 t0 t1 w R) : Calls Try.prog 100 #[t0, t1] w R :=
  calls_of_cw (fn := Try.f100) (c := Try.f100.body.getD .skip) A100 mixes Try.func100 (by kernel_rfl) ok100
    ((by kernel_rfl : (S100 t0 t1 w R) = cw Try.prog A100 (Try.f100.body.getD .skip) 0 (bodyQ Try.prog Try.f100 R) (frOf #[t0, t1]) w).mp h)

def S65 (t0 : Value) (w : World) (R : Ending → World → Prop) : Prop :=
  ln1 t0 fun t6 =>
  binQ Try.prog w .lss 3 true t6 (.int .i64 1) fun t7 =>
  gd t7 false (fun k => k t0 w) w fun t9 w =>
  gd t7 false (fun k => ln1 t9 fun v => k v w) w fun t10 w =>
  gd t7 false (fun k => binQ Try.prog w .gtr 3 true t10 (.int .i64 16) fun v => k v w) w fun t11 w =>
  pickQ t7 (.bool true) t11 fun t12 =>
  condW t12 (
    R (.returned (.bool false)) w
  ) (
    ln1 t0 fun t14 =>
    Loop1 (.int .i64 0) w fun _ t15 w next =>
      binQ Try.prog w .lss 3 false t15 t14 fun t16 =>
      condW t16 (
        iaS 4 t0 t15 fun t18 =>
        ldN 4 w t18 fun t19 =>
        boxW 32 (.agg #[(.int .i64 0), (.int .i64 0), (.int .i64 0), (.int .i64 0)]) w fun t4 w =>
        stW Try.prog 32 t4 t19 w fun w =>
        Drew w fun w =>
        fa1 t4 0 fun t20 =>
        ld1 w t20 fun t21 =>
        callW Try.prog (.func (.func 56) #[] #[]) [t21] w <| keepB w fun t22 w =>
        unQ .not t22 fun t23 =>
        gdQ t23 false (fun k => fa1 t4 1 k) fun t25 =>
        gdQ t23 false (fun k => ld1 w t25 k) fun t26 =>
        gd t23 false (fun k => callW Try.prog (.func (.func 56) #[] #[]) [t26] w k) w fun t27 w =>
        gdQ t23 false (fun k => unQ .not t27 k) fun t28 =>
        pickQ t23 (.bool true) t28 fun t29 =>
        gdQ t29 false (fun k => fa1 t4 2 k) fun t31 =>
        gdQ t29 false (fun k => ld1 w t31 k) fun t32 =>
        gd t29 false (fun k => callW Try.prog (.func (.func 56) #[] #[]) [t32] w k) w fun t33 w =>
        gdQ t29 false (fun k => unQ .not t33 k) fun t34 =>
        pickQ t29 (.bool true) t34 fun t35 =>
        gdQ t35 false (fun k => fa1 t4 3 k) fun t37 =>
        gdQ t35 false (fun k => ld1 w t37 k) fun t38 =>
        gd t35 false (fun k => callW Try.prog (.func (.func 56) #[] #[]) [t38] w k) w <| keepB w fun t39 w =>
        gdQ t35 false (fun k => unQ .not t39 k) fun t40 =>
        pickQ t35 (.bool true) t40 fun t41 =>
        gdQ t41 false (fun k => k t0) fun t43 =>
        gdQ t41 false (fun k => k t15) fun t44 =>
        gdQ t41 false (fun k => slS 4 t43 none (some t44) k) fun t45 =>
        gdQ t41 false (fun k => ldN 4 w t4 k) fun t46 =>
        gd t41 false (fun k => callW Try.prog (.func (.func 100) #[] #[]) [t45, t46] w k) w <| keepB w fun t47 w =>
        pickQ t41 (.bool true) t47 fun t48 =>
        condW t48 (
          R (.returned (.bool false)) w
        ) (
          binQ Try.prog w .add 3 true t15 (.int .i64 1) fun t49 =>
          next t49 w
        )
      ) (
        R (.returned (.bool true)) w
      )
  )

def A65 : Ann where
  live := fun
    | 0 => [15]
    | _ => []
  wr := fun
    | 0 => fun i => (Nat.ble 2 i && Nat.ble i 4) || (Nat.ble 15 i && Nat.ble i 49)
    | _ => fun _ => false
  sched := fun
    | 6 => (.take 0 (.take 1 (.eff 2 (.take 3 (.take 4 (.take 5 (.take 6 (.bar 7 (.take 8 (.take 9 (.take 10 (.take 11 (.take 12 (.bar 13 (.take 14 (.take 15 (.take 16 (.take 17 (.take 18 (.eff 19 (.take 20 (.take 21 (.take 22 (.take 23 (.take 24 (.take 25 (.take 26 (.eff 27 (.take 28 .done)))))))))))))))))))))))))))))
    | _ => .done

set_option maxRecDepth 100000 in
theorem ok65 : (codeOk Try.f65.ntmps A65 (Try.f65.body.getD .skip) 0 && Nat.ble 1 Try.f65.ntmps) = true := by kernel_rfl
set_option maxRecDepth 100000 in
theorem lift65 {t0 : Value} {w : World} {R : Ending → World → Prop} (h : S65 t0 w R) : Calls Try.prog 65 #[t0] w R :=
  calls_of_cw (fn := Try.f65) (c := Try.f65.body.getD .skip) A65 mixes Try.func65 (by kernel_rfl) ok65
    ((by kernel_rfl : (S65 t0 w R) = cw Try.prog A65 (Try.f65.body.getD .skip) 0 (bodyQ Try.prog Try.f65 R) (frOf #[t0]) w).mp h)

def S35 (t0 : Value) (w : World) (R : Ending → World → Prop) : Prop :=
  ln1 t0 fun t7 =>
  binQ Try.prog w .lss 3 true t7 (.int .i64 1) fun t8 =>
  gd t8 false (fun k => k t0 w) w fun t10 w =>
  gd t8 false (fun k => ln1 t10 fun v => k v w) w fun t11 w =>
  gd t8 false (fun k => binQ Try.prog w .gtr 3 true t11 (.int .i64 16) fun v => k v w) w fun t12 w =>
  pickQ t8 (.bool true) t12 fun t13 =>
  condW t13 (
    R (.returned (.bool false)) w
  ) (
    Loop1 (.int .i64 0) w fun _ t3 w next =>
      ln1 t0 fun t16 =>
      binQ Try.prog w .lss 3 false t3 t16 fun t17 =>
      condW t17 (
        iaS 4 t0 t3 fun t22 =>
        ldN 4 w t22 fun t23 =>
        boxW 32 (.agg #[(.int .i64 0), (.int .i64 0), (.int .i64 0), (.int .i64 0)]) w fun t4 w =>
        stW Try.prog 32 t4 t23 w fun w =>
        fa1 t4 0 fun t24 =>
        ld1 w t24 fun t25 =>
        callW Try.prog (.func (.func 62) #[] #[]) [t25] w fun t26 w =>
        unQ .not t26 fun t27 =>
        gd t27 false (fun k => fa1 t4 1 fun v => k v w) w fun t29 w =>
        gd t27 false (fun k => ld1 w t29 fun v => k v w) w fun t30 w =>
        gd t27 false (fun k => callW Try.prog (.func (.func 62) #[] #[]) [t30] w k) w fun t31 w =>
        gd t27 false (fun k => unQ .not t31 fun v => k v w) w fun t32 w =>
        pickQ t27 (.bool true) t32 fun t33 =>
        gd t33 false (fun k => fa1 t4 2 fun v => k v w) w fun t35 w =>
        gd t33 false (fun k => ld1 w t35 fun v => k v w) w fun t36 w =>
        gd t33 false (fun k => callW Try.prog (.func (.func 62) #[] #[]) [t36] w k) w fun t37 w =>
        gd t33 false (fun k => unQ .not t37 fun v => k v w) w fun t38 w =>
        pickQ t33 (.bool true) t38 fun t39 =>
        gd t39 false (fun k => fa1 t4 3 fun v => k v w) w fun t41 w =>
        gd t39 false (fun k => ld1 w t41 fun v => k v w) w fun t42 w =>
        gd t39 false (fun k => callW Try.prog (.func (.func 62) #[] #[]) [t42] w k) w fun t43 w =>
        gd t39 false (fun k => unQ .not t43 fun v => k v w) w fun t44 w =>
        pickQ t39 (.bool true) t44 fun t45 =>
        condW t45 (
          R (.returned (.bool false)) w
        ) (
          Loop1 (.int .i64 0) w fun _ t5 w next_2 =>
            binQ Try.prog w .lss 3 false t5 t3 fun t48 =>
            condW t48 (
              Drew w fun w =>
              iaS 4 t0 t5 fun t53 =>
              ldN 4 w t53 fun t54 =>
              ldN 4 w t4 fun t55 =>
              binQ Try.prog w .eql 32 false t54 t55 fun t56 =>
              condW t56 (
                R (.returned (.bool false)) w
              ) (
                binQ Try.prog w .add 3 true t5 (.int .i64 1) fun t50 =>
                next_2 t50 w
              )
            ) (
              binQ Try.prog w .add 3 true t3 (.int .i64 1) fun t19 =>
              next t19 w
            )
        )
      ) (
        R (.returned (.bool true)) w
      )
  )

def A35 : Ann where
  live := fun
    | 0 => [3]
    | 2 => [5]
    | _ => []
  wr := fun
    | 0 => fun i => (Nat.ble 2 i && Nat.ble i 5) || (Nat.ble 14 i && Nat.ble i 56)
    | 2 => fun i => Nat.beq i 2 || Nat.beq i 5 || (Nat.ble 46 i && Nat.ble i 56)
    | _ => fun _ => false
  sched := fun
    | 12 => (.take 0 (.take 1 (.take 2 (.take 3 (.take 4 (.take 5 .done))))))
    | _ => .done

set_option maxRecDepth 100000 in
theorem ok35 : (codeOk Try.f35.ntmps A35 (Try.f35.body.getD .skip) 0 && Nat.ble 1 Try.f35.ntmps) = true := by kernel_rfl
set_option maxRecDepth 100000 in
theorem lift35 {t0 : Value} {w : World} {R : Ending → World → Prop} (h : S35 t0 w R) : Calls Try.prog 35 #[t0] w R :=
  calls_of_cw (fn := Try.f35) (c := Try.f35.body.getD .skip) A35 mixes Try.func35 (by kernel_rfl) ok35
    ((by kernel_rfl : (S35 t0 w R) = cw Try.prog A35 (Try.f35.body.getD .skip) 0 (bodyQ Try.prog Try.f35 R) (frOf #[t0]) w).mp h)

def S53 (t0 t1 t2 : Value) (w : World) (R : Ending → World → Prop) : Prop :=
  callW Try.prog (.func (.func 65) #[] #[]) [t0] w fun t8 w =>
  unQ .not t8 fun t9 =>
  gd t9 false (fun k => k t1 w) w fun t11 w =>
  gd t9 false (fun k => callW Try.prog (.func (.func 66) #[] #[]) [t11] w k) w fun t12 w =>
  gd t9 false (fun k => unQ .not t12 fun v => k v w) w fun t13 w =>
  pickQ t9 (.bool true) t13 fun t14 =>
  gd t14 false (fun k => k t2 w) w fun t16 w =>
  gd t14 false (fun k => callW Try.prog (.func (.func 66) #[] #[]) [t16] w k) w fun t17 w =>
  gd t14 false (fun k => unQ .not t17 fun v => k v w) w fun t18 w =>
  pickQ t14 (.bool true) t18 fun t19 =>
  condW t19 (
    R (.returned (.int .i64 2)) w
  ) (
    R (.returned (.int .i64 0)) w
  )

def A53 : Ann where
  live := fun _ => []
  wr := fun _ _ => false
  sched := fun _ => .done

set_option maxRecDepth 100000 in
theorem ok53 : (codeOk Try.f53.ntmps A53 (Try.f53.body.getD .skip) 0 && Nat.ble 3 Try.f53.ntmps) = true := by kernel_rfl
set_option maxRecDepth 100000 in
theorem lift53 {t0 t1 t2 : Value} {w : World} {R : Ending → World → Prop} (h : S53 t0 t1 t2 w R) : Calls Try.prog 53 #[t0, t1, t2] w R :=
  calls_of_cw (fn := Try.f53) (c := Try.f53.body.getD .skip) A53 mixes Try.func53 (by kernel_rfl) ok53
    ((by kernel_rfl : (S53 t0 t1 t2 w R) = cw Try.prog A53 (Try.f53.body.getD .skip) 0 (bodyQ Try.prog Try.f53 R) (frOf #[t0, t1, t2]) w).mp h)

def S23 (t0 t1 t2 : Value) (w : World) (R : Ending → World → Prop) : Prop :=
  callW Try.prog (.func (.func 35) #[] #[]) [t0] w fun t8 w =>
  unQ .not t8 fun t9 =>
  gd t9 false (fun k => k t1 w) w fun t11 w =>
  gd t9 false (fun k => callW Try.prog (.func (.func 68) #[] #[]) [t11] w k) w fun t12 w =>
  gd t9 false (fun k => unQ .not t12 fun v => k v w) w fun t13 w =>
  pickQ t9 (.bool true) t13 fun t14 =>
  gd t14 false (fun k => k t2 w) w fun t16 w =>
  gd t14 false (fun k => callW Try.prog (.func (.func 68) #[] #[]) [t16] w k) w fun t17 w =>
  gd t14 false (fun k => unQ .not t17 fun v => k v w) w fun t18 w =>
  pickQ t14 (.bool true) t18 fun t19 =>
  condW t19 (
    R (.returned (.int .i64 2)) w
  ) (
    R (.returned (.int .i64 0)) w
  )

def A23 : Ann where
  live := fun _ => []
  wr := fun _ _ => false
  sched := fun _ => .done

set_option maxRecDepth 100000 in
theorem ok23 : (codeOk Try.f23.ntmps A23 (Try.f23.body.getD .skip) 0 && Nat.ble 3 Try.f23.ntmps) = true := by kernel_rfl
set_option maxRecDepth 100000 in
theorem lift23 {t0 t1 t2 : Value} {w : World} {R : Ending → World → Prop} (h : S23 t0 t1 t2 w R) : Calls Try.prog 23 #[t0, t1, t2] w R :=
  calls_of_cw (fn := Try.f23) (c := Try.f23.body.getD .skip) A23 mixes Try.func23 (by kernel_rfl) ok23
    ((by kernel_rfl : (S23 t0 t1 t2 w R) = cw Try.prog A23 (Try.f23.body.getD .skip) 0 (bodyQ Try.prog Try.f23 R) (frOf #[t0, t1, t2]) w).mp h)

def S73 (t0 : Value) (w : World) (R : Ending → World → Prop) : Prop :=
  Loop2 (.int .i64 1) (.int .i64 0) w fun _ t3 t5 w next =>
    binQ Try.prog w .lss 3 false t5 t0 fun t6 =>
    condW t6 (
      binQ Try.prog w .mul 3 true t3 (.int .i64 8) fun t8 =>
      binQ Try.prog w .add 3 true t5 (.int .i64 1) fun t9 =>
      next t8 t9 w
    ) (
      R (.returned t3) w
    )

def A73 : Ann where
  live := fun
    | 0 => [3, 5]
    | _ => []
  wr := fun
    | 0 => fun i => Nat.beq i 3 || (Nat.ble 5 i && Nat.ble i 9)
    | _ => fun _ => false
  sched := fun _ => .done

set_option maxRecDepth 100000 in
theorem ok73 : (codeOk Try.f73.ntmps A73 (Try.f73.body.getD .skip) 0 && Nat.ble 1 Try.f73.ntmps) = true := by kernel_rfl
set_option maxRecDepth 100000 in
theorem lift73 {t0 : Value} {w : World} {R : Ending → World → Prop} (h : S73 t0 w R) : Calls Try.prog 73 #[t0] w R :=
  calls_of_cw (fn := Try.f73) (c := Try.f73.body.getD .skip) A73 mixes Try.func73 (by kernel_rfl) ok73
    ((by kernel_rfl : (S73 t0 w R) = cw Try.prog A73 (Try.f73.body.getD .skip) 0 (bodyQ Try.prog Try.f73 R) (frOf #[t0]) w).mp h)

def S58 (t0 : Value) (w : World) (R : Ending → World → Prop) : Prop :=
  ln1 t0 fun t7 =>
  Loop2 (.int .i64 0) (.int .i64 0) w fun _ t3 t8 w next =>
    binQ Try.prog w .lss 3 false t8 t7 fun t9 =>
    condW t9 (
      iaS 1 t0 t8 fun t10 =>
      ld1 w t10 fun t11 =>
      binQ Try.prog w .mul 3 true t3 (.int .i64 8) fun t13 =>
      binQ Try.prog w .add 3 false t13 t11 fun t15 =>
      binQ Try.prog w .add 3 true t8 (.int .i64 1) fun t16 =>
      next t15 t16 w
    ) (
      R (.returned t3) w
    )

def A58 : Ann where
  live := fun
    | 0 => [3, 8]
    | _ => []
  wr := fun
    | 0 => fun i => Nat.beq i 3 || Nat.beq i 5 || (Nat.ble 8 i && Nat.ble i 16)
    | _ => fun _ => false
  sched := fun _ => .done

set_option maxRecDepth 100000 in
theorem ok58 : (codeOk Try.f58.ntmps A58 (Try.f58.body.getD .skip) 0 && Nat.ble 1 Try.f58.ntmps) = true := by kernel_rfl
set_option maxRecDepth 100000 in
theorem lift58 {t0 : Value} {w : World} {R : Ending → World → Prop} (h : S58 t0 w R) : Calls Try.prog 58 #[t0] w R :=
  calls_of_cw (fn := Try.f58) (c := Try.f58.body.getD .skip) A58 mixes Try.func58 (by kernel_rfl) ok58
    ((by kernel_rfl : (S58 t0 w R) = cw Try.prog A58 (Try.f58.body.getD .skip) 0 (bodyQ Try.prog Try.f58 R) (frOf #[t0]) w).mp h)

def S102 (t0 t1 : Value) (w : World) (R : Ending → World → Prop) : Prop :=
  ln1 t0 fun t7 =>
  Loop1 (.int .i64 0) w fun _ t8 w next =>
    binQ Try.prog w .lss 3 false t8 t7 fun t9 =>
    condW t9 (
      iaS 1 t0 t8 fun t14 =>
      ld1 w t14 fun t15 =>
      callW Try.prog t1 [t15] w fun t16 w =>
      condW t16 (
        R (.returned t8) w
      ) (
        binQ Try.prog w .add 3 true t8 (.int .i64 1) fun t18 =>
        next t18 w
      )
    ) (
      R (.returned (.int .i64 (-1))) w
    )

def A102 : Ann where
  live := fun
    | 0 => [8]
    | _ => []
  wr := fun
    | 0 => fun i => (Nat.ble 4 i && Nat.ble i 5) || (Nat.ble 8 i && Nat.ble i 18)
    | _ => fun _ => false
  sched := fun _ => .done

set_option maxRecDepth 100000 in
theorem ok102 : (codeOk Try.f102.ntmps A102 (Try.f102.body.getD .skip) 0 && Nat.ble 2 Try.f102.ntmps) = true := by kernel_rfl
set_option maxRecDepth 100000 in
theorem lift102 {t0 t1 : Value} {w : World} {R : Ending → World → Prop} (h : S102 t0 t1 w R) : Calls Try.prog 102 #[t0, t1] w R :=
  calls_of_cw (fn := Try.f102) (c := Try.f102.body.getD .skip) A102 mixes Try.func102 (by kernel_rfl) ok102
    ((by kernel_rfl : (S102 t0 t1 w R) = cw Try.prog A102 (Try.f102.body.getD .skip) 0 (bodyQ Try.prog Try.f102 R) (frOf #[t0, t1]) w).mp h)

def S54 (t0 t1 : Value) (w : World) (R : Ending → World → Prop) : Prop :=
  callW Try.prog (.func (.func 102) #[] #[]) [t0, t1] w fun t7 w =>
  binQ Try.prog w .geq 3 true t7 (.int .i64 0) fun t8 =>
  R (.returned t8) w

def A54 : Ann where
  live := fun _ => []
  wr := fun _ _ => false
  sched := fun _ => .done

set_option maxRecDepth 100000 in
theorem ok54 : (codeOk Try.f54.ntmps A54 (Try.f54.body.getD .skip) 0 && Nat.ble 2 Try.f54.ntmps) = true := by kernel_rfl
set_option maxRecDepth 100000 in
theorem lift54 {t0 t1 : Value} {w : World} {R : Ending → World → Prop} (h : S54 t0 t1 w R) : Calls Try.prog 54 #[t0, t1] w R :=
  calls_of_cw (fn := Try.f54) (c := Try.f54.body.getD .skip) A54 mixes Try.func54 (by kernel_rfl) ok54
    ((by kernel_rfl : (S54 t0 t1 w R) = cw Try.prog A54 (Try.f54.body.getD .skip) 0 (bodyQ Try.prog Try.f54 R) (frOf #[t0, t1]) w).mp h)

def S55 (t0 : Value) (w : World) (R : Ending → World → Prop) : Prop :=
  callW Try.prog (.func (.func 56) #[] #[]) [t0] w fun t4 w =>
  unQ .not t4 fun t5 =>
  R (.returned t5) w

def A55 : Ann where
  live := fun _ => []
  wr := fun _ _ => false
  sched := fun _ => .done

set_option maxRecDepth 100000 in
theorem ok55 : (codeOk Try.f55.ntmps A55 (Try.f55.body.getD .skip) 0 && Nat.ble 1 Try.f55.ntmps) = true := by kernel_rfl
set_option maxRecDepth 100000 in
theorem lift55 {t0 : Value} {w : World} {R : Ending → World → Prop} (h : S55 t0 w R) : Calls Try.prog 55 #[t0] w R :=
  calls_of_cw (fn := Try.f55) (c := Try.f55.body.getD .skip) A55 mixes Try.func55 (by kernel_rfl) ok55
    ((by kernel_rfl : (S55 t0 w R) = cw Try.prog A55 (Try.f55.body.getD .skip) 0 (bodyQ Try.prog Try.f55 R) (frOf #[t0]) w).mp h)

def S118 (t0 : Value) (w : World) (R : Ending → World → Prop) : Prop :=
  binQ Try.prog w .neq 3 false t0 t0 fun t5 =>
  R (.returned t5) w

def A118 : Ann where
  live := fun _ => []
  wr := fun _ _ => false
  sched := fun _ => .done

set_option maxRecDepth 100000 in
theorem ok118 : (codeOk Try.f118.ntmps A118 (Try.f118.body.getD .skip) 0 && Nat.ble 1 Try.f118.ntmps) = true := by kernel_rfl
set_option maxRecDepth 100000 in
theorem lift118 {t0 : Value} {w : World} {R : Ending → World → Prop} (h : S118 t0 w R) : Calls Try.prog 118 #[t0] w R :=
  calls_of_cw (fn := Try.f118) (c := Try.f118.body.getD .skip) A118 mixes Try.func118 (by kernel_rfl) ok118
    ((by kernel_rfl : (S118 t0 w R) = cw Try.prog A118 (Try.f118.body.getD .skip) 0 (bodyQ Try.prog Try.f118 R) (frOf #[t0]) w).mp h)

def S103 (t0 t1 : Value) (w : World) (R : Ending → World → Prop) : Prop :=
  callW Try.prog (.func (.func 118) #[] #[]) [t0] w fun t8 w =>
  callW Try.prog (.func (.func 118) #[] #[]) [t1] w fun t10 w =>
  condW t8 (
    condW t10 (
      R (.returned (.int .i64 0)) w
    ) (
      R (.returned (.int .i64 (-1))) w
    )
  ) (
    condW t10 (
      R (.returned (.int .i64 1)) w
    ) (
      binQ Try.prog w .lss 3 false t0 t1 fun t16 =>
      condW t16 (
        R (.returned (.int .i64 (-1))) w
      ) (
        binQ Try.prog w .gtr 3 false t0 t1 fun t19 =>
        condW t19 (
          R (.returned (.int .i64 1)) w
        ) (
          R (.returned (.int .i64 0)) w
        )
      )
    )
  )

def A103 : Ann where
  live := fun _ => []
  wr := fun _ _ => false
  sched := fun _ => .done

set_option maxRecDepth 100000 in
theorem ok103 : (codeOk Try.f103.ntmps A103 (Try.f103.body.getD .skip) 0 && Nat.ble 2 Try.f103.ntmps) = true := by kernel_rfl
set_option maxRecDepth 100000 in
theorem lift103 {t0 t1 : Value} {w : World} {R : Ending → World → Prop} (h : S103 t0 t1 w R) : Calls Try.prog 103 #[t0, t1] w R :=
  calls_of_cw (fn := Try.f103) (c := Try.f103.body.getD .skip) A103 mixes Try.func103 (by kernel_rfl) ok103
    ((by kernel_rfl : (S103 t0 t1 w R) = cw Try.prog A103 (Try.f103.body.getD .skip) 0 (bodyQ Try.prog Try.f103 R) (frOf #[t0, t1]) w).mp h)

def S57 (t0 t1 : Value) (w : World) (R : Ending → World → Prop) : Prop :=
  ln1 t0 fun t10 =>
  Loop1 (.int .i64 0) w fun _ t11 w next =>
    binQ Try.prog w .lss 3 false t11 t10 fun t12 =>
    condW t12 (
      iaS 1 t0 t11 fun t14 =>
      ld1 w t14 fun t15 =>
      ln1 t1 fun t18 =>
      binQ Try.prog w .geq 3 false t11 t18 fun t19 =>
      condW t19 (
        R (.returned (.int .i64 1)) w
      ) (
        iaS 1 t1 t11 fun t22 =>
        ld1 w t22 fun t23 =>
        callW Try.prog (.func (.func 103) #[] #[]) [t15, t23] w fun t26 w =>
        binQ Try.prog w .neq 3 true t26 (.int .i64 0) fun t28 =>
        condW t28 (
          R (.returned t26) w
        ) (
          binQ Try.prog w .add 3 true t11 (.int .i64 1) fun t30 =>
          next t30 w
        )
      )
    ) (
      ln1 t0 fun t32 =>
      ln1 t1 fun t34 =>
      binQ Try.prog w .lss 3 false t32 t34 fun t35 =>
      condW t35 (
        R (.returned (.int .i64 (-1))) w
      ) (
        R (.returned (.int .i64 0)) w
      )
    )

def A57 : Ann where
  live := fun
    | 0 => [11]
    | _ => []
  wr := fun
    | 0 => fun i => (Nat.ble 4 i && Nat.ble i 8) || (Nat.ble 11 i && Nat.ble i 30)
    | _ => fun _ => false
  sched := fun _ => .done

set_option maxRecDepth 100000 in
theorem ok57 : (codeOk Try.f57.ntmps A57 (Try.f57.body.getD .skip) 0 && Nat.ble 2 Try.f57.ntmps) = true := by kernel_rfl
set_option maxRecDepth 100000 in
theorem lift57 {t0 t1 : Value} {w : World} {R : Ending → World → Prop} (h : S57 t0 t1 w R) : Calls Try.prog 57 #[t0, t1] w R :=
  calls_of_cw (fn := Try.f57) (c := Try.f57.body.getD .skip) A57 mixes Try.func57 (by kernel_rfl) ok57
    ((by kernel_rfl : (S57 t0 t1 w R) = cw Try.prog A57 (Try.f57.body.getD .skip) 0 (bodyQ Try.prog Try.f57 R) (frOf #[t0, t1]) w).mp h)

theorem fok56 : fnOk Try.prog 56 = true := by kernel_rfl
theorem fok62 : fnOk Try.prog 62 = true := by kernel_rfl
theorem fok66 : fnOk Try.prog 66 = true := by kernel_rfl
theorem fok68 : fnOk Try.prog 68 = true := by kernel_rfl
theorem fok117 : fnOk Try.prog 117 = true := by kernel_rfl
theorem fok100 : fnOk Try.prog 100 = true := by kernel_rfl
theorem fok65 : fnOk Try.prog 65 = true := by kernel_rfl
theorem fok35 : fnOk Try.prog 35 = true := by kernel_rfl
theorem fok53 : fnOk Try.prog 53 = true := by kernel_rfl
theorem fok23 : fnOk Try.prog 23 = true := by kernel_rfl
theorem fok73 : fnOk Try.prog 73 = true := by kernel_rfl
theorem fok58 : fnOk Try.prog 58 = true := by kernel_rfl
theorem fok102 : fnOk Try.prog 102 = true := by kernel_rfl
theorem fok54 : fnOk Try.prog 54 = true := by kernel_rfl
theorem fok55 : fnOk Try.prog 55 = true := by kernel_rfl
theorem fok118 : fnOk Try.prog 118 = true := by kernel_rfl
theorem fok103 : fnOk Try.prog 103 = true := by kernel_rfl
theorem fok57 : fnOk Try.prog 57 = true := by kernel_rfl
end Go.Proofs.Ytgalbokmgffhkaa
