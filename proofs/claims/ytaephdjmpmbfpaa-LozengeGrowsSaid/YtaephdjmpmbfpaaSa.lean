/- Lifted texts, printed by program (gen.py): what each function's code asks. The ties are by the kernel. -/
import Derived.Test.YtaephdjmpmbfpaaBase
set_option linter.all false
namespace Go.Proofs.Ytaephdjmpmbfpaa
open Go.Lf Go.RowKit

def S13 (t0 : Value) (w : World) (R : Ending → World → Prop) : Prop :=
  Loop2 (.int .i64 0) (.int .i64 0) w fun _ t3 t4 w next =>
    ln1 t0 fun t8 =>
    binQ Try.prog w .lss 3 false t4 t8 fun t9 =>
    condW t9 (
      Loop2 t3 (.int .i64 0) w fun _ t3_2 t5 w next_2 =>
        iaS 1 t0 t4 fun t15 =>
        ld1 w t15 fun t16 =>
        ln1 t16 fun t17 =>
        binQ Try.prog w .lss 3 false t5 t17 fun t18 =>
        condW t18 (
          iaS 1 t0 t4 fun t24 =>
          ld1 w t24 fun t25 =>
          iaS 1 t25 t5 fun t27 =>
          ld1 w t27 fun t28 =>
          binQ Try.prog w .add 3 false t3_2 t28 fun t29 =>
          binQ Try.prog w .add 3 true t5 (.int .i64 1) fun t20 =>
          next_2 t29 t20 w
        ) (
          binQ Try.prog w .add 3 true t4 (.int .i64 1) fun t11 =>
          next t3_2 t11 w
        )
    ) (
      R (.returned t3) w
    )

def A13 : Ann where
  live := fun
    | 0 => [3, 4]
    | 2 => [3, 5]
    | _ => []
  wr := fun
    | 0 => fun i => (Nat.ble 3 i && Nat.ble i 29)
    | 2 => fun i => Nat.beq i 3 || Nat.beq i 5 || (Nat.ble 12 i && Nat.ble i 29)
    | _ => fun _ => false
  sched := fun _ => .done

set_option maxRecDepth 100000 in
theorem ok13 : (codeOk Try.f13.ntmps A13 (Try.f13.body.getD .skip) 0 && Nat.ble 1 Try.f13.ntmps) = true := by kernel_rfl
set_option maxRecDepth 100000 in
theorem lift13 {t0 : Value} {w : World} {R : Ending → World → Prop} (h : S13 t0 w R) : Calls Try.prog 13 #[t0] w R :=
  calls_of_cw (fn := Try.f13) (c := Try.f13.body.getD .skip) A13 mixes Try.func13 (by kernel_rfl) ok13
    ((by kernel_rfl : (S13 t0 w R) = cw Try.prog A13 (Try.f13.body.getD .skip) 0 (bodyQ Try.prog Try.f13 R) (frOf #[t0]) w).mp h)

def S15 (t0 t1 : Value) (w : World) (R : Ending → World → Prop) : Prop :=
  boxW 25 t0 w fun t2 w =>
  ln1 t1 fun t8 =>
  fa1 t2 0 fun t9 =>
  ld1 w t9 fun t10 =>
  binQ Try.prog w .neq 3 false t8 t10 fun t11 =>
  condW t11 (
    R (.returned (.bool false)) w
  ) (
    Loop1 (.int .i64 0) w fun _ t5 w next =>
      fa1 t2 0 fun t13 =>
      ld1 w t13 fun t14 =>
      binQ Try.prog w .lss 3 false t5 t14 fun t15 =>
      condW t15 (
        Drew w fun w =>
        iaS 1 t1 t5 fun t20 =>
        ld1 w t20 fun t21 =>
        ln1 t21 fun t22 =>
        fa1 t2 1 fun t23 =>
        ld1 w t23 fun t24 =>
        binQ Try.prog w .neq 3 false t22 t24 fun t25 =>
        condW t25 (
          R (.returned (.bool false)) w
        ) (
          Loop1 (.int .i64 0) w fun _ t6 w next_2 =>
            fa1 t2 1 fun t27 =>
            ld1 w t27 fun t28 =>
            binQ Try.prog w .lss 3 false t6 t28 fun t29 =>
            condW t29 (
              Drew w fun w =>
              iaS 1 t1 t5 fun t34 =>
              ld1 w t34 fun t35 =>
              iaS 1 t35 t6 fun t37 =>
              ld1 w t37 fun t38 =>
              binQ Try.prog w .lss 3 true t38 (.int .i64 0) fun t39 =>
              gdQ t39 false (fun k => k t1) fun t41 =>
              gdQ t39 false (fun k => k t5) fun t42 =>
              gdQ t39 false (fun k => iaS 1 t41 t42 k) fun t43 =>
              gdQ t39 false (fun k => ld1 w t43 k) fun t44 =>
              gdQ t39 false (fun k => k t6) fun t45 =>
              gdQ t39 false (fun k => iaS 1 t44 t45 k) fun t46 =>
              gdQ t39 false (fun k => ld1 w t46 k) fun t47 =>
              gdQ t39 false (fun k => ldN 3 w t2 k) fun t48 =>
              gdQ t39 false (fun k => k t1) fun t49 =>
              gdQ t39 false (fun k => k t5) fun t50 =>
              gdQ t39 false (fun k => k t6) fun t51 =>
              gd t39 false (fun k => callW Try.prog (.func (.func 48) #[] #[]) [t48, t49, t50, t51] w k) w <| keepB w fun t52 w =>
              gdQ t39 false (fun k => binQ Try.prog w .gtr 3 false t47 t52 k) fun t53 =>
              pickQ t39 (.bool true) t53 fun t54 =>
              condW t54 (
                R (.returned (.bool false)) w
              ) (
                binQ Try.prog w .add 3 true t6 (.int .i64 1) fun t31 =>
                next_2 t31 w
              )
            ) (
              binQ Try.prog w .add 3 true t5 (.int .i64 1) fun t17 =>
              next t17 w
            )
        )
      ) (
        R (.returned (.bool true)) w
      )
  )

def A15 : Ann where
  live := fun
    | 0 => [5]
    | 2 => [6]
    | _ => []
  wr := fun
    | 0 => fun i => (Nat.ble 4 i && Nat.ble i 6) || (Nat.ble 12 i && Nat.ble i 54)
    | 2 => fun i => Nat.beq i 4 || Nat.beq i 6 || (Nat.ble 26 i && Nat.ble i 54)
    | _ => fun _ => false
  sched := fun
    | 6 => (.take 0 (.take 1 (.take 2 (.take 3 (.take 4 (.take 5 (.take 6 (.take 7 .done))))))))
    | 11 => (.take 0 (.take 1 (.take 2 (.take 3 (.take 4 (.take 5 (.take 6 (.take 7 (.take 8 (.take 9 (.take 10 (.take 11 (.take 12 (.take 13 (.take 14 (.take 15 (.take 16 (.take 17 (.take 18 (.take 19 (.eff 20 (.take 21 (.take 22 .done)))))))))))))))))))))))
    | _ => .done

set_option maxRecDepth 100000 in
theorem ok15 : (codeOk Try.f15.ntmps A15 (Try.f15.body.getD .skip) 0 && Nat.ble 2 Try.f15.ntmps) = true := by kernel_rfl
set_option maxRecDepth 100000 in
theorem lift15 {t0 t1 : Value} {w : World} {R : Ending → World → Prop} (h : S15 t0 t1 w R) : Calls Try.prog 15 #[t0, t1] w R :=
  calls_of_cw (fn := Try.f15) (c := Try.f15.body.getD .skip) A15 mixes Try.func15 (by kernel_rfl) ok15
    ((by kernel_rfl : (S15 t0 t1 w R) = cw Try.prog A15 (Try.f15.body.getD .skip) 0 (bodyQ Try.prog Try.f15 R) (frOf #[t0, t1]) w).mp h)

def S23 (t0 t1 : Value) (w : World) (R : Ending → World → Prop) : Prop :=
  boxW 25 t0 w fun t2 w =>
  fa1 t2 0 fun t9 =>
  ld1 w t9 fun t10 =>
  fa1 t2 1 fun t11 =>
  ld1 w t11 fun t12 =>
  binQ Try.prog w .mul 3 false t10 t12 fun t13 =>
  binQ Try.prog w .sub 3 true t13 (.int .i64 1) fun t14 =>
  Loop1 t14 w fun _ t5 w next =>
    binQ Try.prog w .geq 3 true t5 (.int .i64 0) fun t16 =>
    condW t16 (
      Drew w fun w =>
      fa1 t2 1 fun t20 =>
      ld1 w t20 fun t21 =>
      binQ Try.prog w .quo 3 false t5 t21 fun t22 =>
      fa1 t2 1 fun t24 =>
      ld1 w t24 fun t25 =>
      binQ Try.prog w .rem 3 false t5 t25 fun t26 =>
      Drew w fun w =>
      iaS 1 t1 t22 fun t29 =>
      ld1 w t29 fun t30 =>
      iaS 1 t30 t26 fun t32 =>
      ld1 w t32 fun t33 =>
      ldN 3 w t2 fun t34 =>
      callW Try.prog (.func (.func 48) #[] #[]) [t34, t1, t22, t26] w <| keepB w fun t38 w =>
      binQ Try.prog w .lss 3 false t33 t38 fun t39 =>
      condW t39 (
        iaS 1 t1 t22 fun t42 =>
        ld1 w t42 fun t43 =>
        iaS 1 t43 t26 fun t45 =>
        ld1 w t45 fun t46 =>
        binQ Try.prog w .add 3 true t46 (.int .i64 1) fun t47 =>
        iaS 1 t43 t26 fun t48 =>
        stW Try.prog 3 t48 t47 w fun w =>
        binQ Try.prog w .add 3 true t5 (.int .i64 1) fun t50 =>
        Loop1 t50 w fun _ t8 w next_2 =>
          fa1 t2 0 fun t52 =>
          ld1 w t52 fun t53 =>
          fa1 t2 1 fun t54 =>
          ld1 w t54 fun t55 =>
          binQ Try.prog w .mul 3 false t53 t55 fun t56 =>
          binQ Try.prog w .lss 3 false t8 t56 fun t57 =>
          condW t57 (
            Drew w fun w =>
            fa1 t2 1 fun t62 =>
            ld1 w t62 fun t63 =>
            binQ Try.prog w .quo 3 false t8 t63 fun t64 =>
            iaS 1 t1 t64 fun t65 =>
            ld1 w t65 fun t66 =>
            fa1 t2 1 fun t68 =>
            ld1 w t68 fun t69 =>
            binQ Try.prog w .rem 3 false t8 t69 fun t70 =>
            iaS 1 t66 t70 fun t71 =>
            stW Try.prog 3 t71 (.int .i64 0) w fun w =>
            binQ Try.prog w .add 3 true t8 (.int .i64 1) fun t59 =>
            next_2 t59 w
          ) (
            R (.returned (.bool true)) w
          )
      ) (
        binQ Try.prog w .sub 3 true t5 (.int .i64 1) fun t18 =>
        next t18 w
      )
    ) (
      R (.returned (.bool false)) w
    )

def A23 : Ann where
  live := fun
    | 0 => [5]
    | 2 => [8]
    | _ => []
  wr := fun
    | 0 => fun i => (Nat.ble 4 i && Nat.ble i 8) || (Nat.ble 15 i && Nat.ble i 71)
    | 2 => fun i => Nat.beq i 8 || (Nat.ble 51 i && Nat.ble i 71)
    | _ => fun _ => false
  sched := fun
    | 4 => (.take 0 (.take 1 (.take 2 (.take 3 (.take 4 (.take 5 (.take 6 (.take 7 (.take 8 (.take 9 .done))))))))))
    | 5 => (.take 0 (.take 1 (.take 2 (.take 3 (.take 4 (.take 5 (.take 6 (.take 7 (.take 8 (.take 9 (.take 10 (.eff 11 (.take 12 .done)))))))))))))
    | 10 => (.take 0 (.take 1 (.take 2 (.take 3 (.take 4 (.take 5 (.take 6 (.take 7 (.take 8 (.take 9 (.take 10 (.take 11 (.bar 12 .done)))))))))))))
    | _ => .done

set_option maxRecDepth 100000 in
theorem ok23 : (codeOk Try.f23.ntmps A23 (Try.f23.body.getD .skip) 0 && Nat.ble 2 Try.f23.ntmps) = true := by kernel_rfl
set_option maxRecDepth 100000 in
theorem lift23 {t0 t1 : Value} {w : World} {R : Ending → World → Prop} (h : S23 t0 t1 w R) : Calls Try.prog 23 #[t0, t1] w R :=
  calls_of_cw (fn := Try.f23) (c := Try.f23.body.getD .skip) A23 mixes Try.func23 (by kernel_rfl) ok23
    ((by kernel_rfl : (S23 t0 t1 w R) = cw Try.prog A23 (Try.f23.body.getD .skip) 0 (bodyQ Try.prog Try.f23 R) (frOf #[t0, t1]) w).mp h)

def S34 (t0 t1 : Value) (w : World) (R : Ending → World → Prop) : Prop :=
  boxW 25 t0 w fun t2 w =>
  ldN 3 w t2 fun t8 =>
  callW Try.prog (.func (.func 62) #[] #[]) [t8] w fun t9 w =>
  unQ .not t9 fun t10 =>
  condW t10 (
    R (.returned (.tuple #[(.slice none 0 0), (.int .i64 2)])) w
  ) (
    binQ Try.prog w .lss 3 true t1 (.int .i64 0) fun t12 =>
    condW t12 (
      R (.returned (.tuple #[(.slice none 0 0), (.int .i64 4)])) w
    ) (
      ldN 3 w t2 fun t13 =>
      callW Try.prog (.func (.func 66) #[] #[]) [t13] w fun t14 w =>
      Loop1 (.int .i64 0) w fun _ t7 w next =>
        binQ Try.prog w .lss 3 false t7 t1 fun t17 =>
        condW t17 (
          ldN 3 w t2 fun t20 =>
          callW Try.prog (.func (.func 23) #[] #[]) [t20, t14] w fun t22 w =>
          unQ .not t22 fun t23 =>
          condW t23 (
            R (.returned (.tuple #[(.slice none 0 0), (.int .i64 4)])) w
          ) (
            binQ Try.prog w .add 3 true t7 (.int .i64 1) fun t19 =>
            next t19 w
          )
        ) (
          R (.returned (.tuple #[t14, (.int .i64 0)])) w
        )
    )
  )

def A34 : Ann where
  live := fun
    | 0 => [7]
    | _ => []
  wr := fun
    | 0 => fun i => (Nat.ble 4 i && Nat.ble i 5) || Nat.beq i 7 || (Nat.ble 15 i && Nat.ble i 23)
    | _ => fun _ => false
  sched := fun _ => .done

set_option maxRecDepth 100000 in
theorem ok34 : (codeOk Try.f34.ntmps A34 (Try.f34.body.getD .skip) 0 && Nat.ble 2 Try.f34.ntmps) = true := by kernel_rfl
set_option maxRecDepth 100000 in
theorem lift34 {t0 t1 : Value} {w : World} {R : Ending → World → Prop} (h : S34 t0 t1 w R) : Calls Try.prog 34 #[t0, t1] w R :=
  calls_of_cw (fn := Try.f34) (c := Try.f34.body.getD .skip) A34 mixes Try.func34 (by kernel_rfl) ok34
    ((by kernel_rfl : (S34 t0 t1 w R) = cw Try.prog A34 (Try.f34.body.getD .skip) 0 (bodyQ Try.prog Try.f34 R) (frOf #[t0, t1]) w).mp h)

def S47 (t0 t1 : Value) (w : World) (R : Ending → World → Prop) : Prop :=
  boxW 25 t0 w fun t2 w =>
  ldN 3 w t2 fun t5 =>
  callW Try.prog (.func (.func 58) #[] #[]) [t5] w fun t6 w =>
  unQ .not t6 fun t7 =>
  gd t7 false (fun k => ldN 3 w t2 fun v => k v w) w fun t9 w =>
  gd t7 false (fun k => k t1 w) w fun t10 w =>
  gd t7 false (fun k => callW Try.prog (.func (.func 67) #[] #[]) [t9, t10] w k) w fun t11 w =>
  gd t7 false (fun k => unQ .not t11 fun v => k v w) w fun t12 w =>
  pickQ t7 (.bool true) t12 fun t13 =>
  condW t13 (
    R (.returned (.int .i64 2)) w
  ) (
    R (.returned (.int .i64 0)) w
  )

def A47 : Ann where
  live := fun _ => []
  wr := fun _ _ => false
  sched := fun _ => .done

set_option maxRecDepth 100000 in
theorem ok47 : (codeOk Try.f47.ntmps A47 (Try.f47.body.getD .skip) 0 && Nat.ble 2 Try.f47.ntmps) = true := by kernel_rfl
set_option maxRecDepth 100000 in
theorem lift47 {t0 t1 : Value} {w : World} {R : Ending → World → Prop} (h : S47 t0 t1 w R) : Calls Try.prog 47 #[t0, t1] w R :=
  calls_of_cw (fn := Try.f47) (c := Try.f47.body.getD .skip) A47 mixes Try.func47 (by kernel_rfl) ok47
    ((by kernel_rfl : (S47 t0 t1 w R) = cw Try.prog A47 (Try.f47.body.getD .skip) 0 (bodyQ Try.prog Try.f47 R) (frOf #[t0, t1]) w).mp h)

def S48 (t0 t1 t2 t3 : Value) (w : World) (R : Ending → World → Prop) : Prop :=
  boxW 25 t0 w fun t4 w =>
  fa1 t4 2 fun t10 =>
  ld1 w t10 fun t11 =>
  binQ Try.prog w .gtr 3 true t3 (.int .i64 0) fun t13 =>
  Join (fun (k_2 : Value → World → Prop) =>
    condW t13 (
      iaS 1 t1 t2 fun t17 =>
      ld1 w t17 fun t18 =>
      binQ Try.prog w .sub 3 true t3 (.int .i64 1) fun t20 =>
      iaS 1 t18 t20 fun t21 =>
      ld1 w t21 fun t22 =>
      mnQ false [t11, t22] fun t23 =>
      k_2 t23 w
    ) (
      k_2 t11 w
    )
  ) fun t9 w =>
  binQ Try.prog w .gtr 3 true t2 (.int .i64 0) fun t25_2 =>
  condW t25_2 (
    binQ Try.prog w .sub 3 true t2 (.int .i64 1) fun t29_2 =>
    iaS 1 t1 t29_2 fun t30_2 =>
    ld1 w t30_2 fun t31_2 =>
    iaS 1 t31_2 t3 fun t33_2 =>
    ld1 w t33_2 fun t34_2 =>
    mnQ false [t9, t34_2] fun t35_2 =>
    R (.returned t35_2) w
  ) (
    R (.returned t9) w
  )

def A48 : Ann where
  live := fun _ => []
  wr := fun _ _ => false
  sched := fun _ => .done

set_option maxRecDepth 100000 in
theorem ok48 : (codeOk Try.f48.ntmps A48 (Try.f48.body.getD .skip) 0 && Nat.ble 4 Try.f48.ntmps) = true := by kernel_rfl
set_option maxRecDepth 100000 in
theorem lift48 {t0 t1 t2 t3 : Value} {w : World} {R : Ending → World → Prop} (h : S48 t0 t1 t2 t3 w R) : Calls Try.prog 48 #[t0, t1, t2, t3] w R :=
  calls_of_cw (fn := Try.f48) (c := Try.f48.body.getD .skip) A48 mixes Try.func48 (by kernel_rfl) ok48
    ((by kernel_rfl : (S48 t0 t1 t2 t3 w R) = cw Try.prog A48 (Try.f48.body.getD .skip) 0 (bodyQ Try.prog Try.f48 R) (frOf #[t0, t1, t2, t3]) w).mp h)

def S58 (t0 : Value) (w : World) (R : Ending → World → Prop) : Prop :=
  boxW 25 t0 w fun t1 w =>
  fa1 t1 0 fun t3 =>
  ld1 w t3 fun t4 =>
  fa1 t1 1 fun t5 =>
  ld1 w t5 fun t6 =>
  fa1 t1 2 fun t7 =>
  ld1 w t7 fun t8 =>
  mnQ false [t4, t6, t8] fun t9 =>
  binQ Try.prog w .geq 3 true t9 (.int .i64 1) fun t10 =>
  gd t10 true (fun k => fa1 t1 0 fun v => k v w) w fun t12 w =>
  gd t10 true (fun k => ld1 w t12 fun v => k v w) w fun t13 w =>
  gd t10 true (fun k => fa1 t1 1 fun v => k v w) w fun t14 w =>
  gd t10 true (fun k => ld1 w t14 fun v => k v w) w fun t15 w =>
  gd t10 true (fun k => fa1 t1 2 fun v => k v w) w fun t16 w =>
  gd t10 true (fun k => ld1 w t16 fun v => k v w) w fun t17 w =>
  gd t10 true (fun k => mnQ true [t13, t15, t17] fun v => k v w) w fun t18 w =>
  gd t10 true (fun k => binQ Try.prog w .leq 3 true t18 (.int .i64 4) fun v => k v w) w fun t19 w =>
  pickQ t10 t19 (.bool false) fun t20 =>
  R (.returned t20) w

def A58 : Ann where
  live := fun _ => []
  wr := fun _ _ => false
  sched := fun _ => .done

set_option maxRecDepth 100000 in
theorem ok58 : (codeOk Try.f58.ntmps A58 (Try.f58.body.getD .skip) 0 && Nat.ble 1 Try.f58.ntmps) = true := by kernel_rfl
set_option maxRecDepth 100000 in
theorem lift58 {t0 : Value} {w : World} {R : Ending → World → Prop} (h : S58 t0 w R) : Calls Try.prog 58 #[t0] w R :=
  calls_of_cw (fn := Try.f58) (c := Try.f58.body.getD .skip) A58 mixes Try.func58 (by kernel_rfl) ok58
    ((by kernel_rfl : (S58 t0 w R) = cw Try.prog A58 (Try.f58.body.getD .skip) 0 (bodyQ Try.prog Try.f58 R) (frOf #[t0]) w).mp h)

def S62 (t0 : Value) (w : World) (R : Ending → World → Prop) : Prop :=
  boxW 25 t0 w fun t1 w =>
  fa1 t1 0 fun t3 =>
  ld1 w t3 fun t4 =>
  binQ Try.prog w .geq 3 true t4 (.int .i64 1) fun t5 =>
  gd t5 true (fun k => fa1 t1 0 fun v => k v w) w fun t7 w =>
  gd t5 true (fun k => ld1 w t7 fun v => k v w) w fun t8 w =>
  gd t5 true (fun k => binQ Try.prog w .leq 3 true t8 (.int .i64 4) fun v => k v w) w fun t9 w =>
  pickQ t5 t9 (.bool false) fun t10 =>
  gd t10 true (fun k => fa1 t1 1 fun v => k v w) w fun t12 w =>
  gd t10 true (fun k => ld1 w t12 fun v => k v w) w fun t13 w =>
  gd t10 true (fun k => binQ Try.prog w .geq 3 true t13 (.int .i64 1) fun v => k v w) w fun t14 w =>
  pickQ t10 t14 (.bool false) fun t15 =>
  gd t15 true (fun k => fa1 t1 1 fun v => k v w) w fun t17 w =>
  gd t15 true (fun k => ld1 w t17 fun v => k v w) w fun t18 w =>
  gd t15 true (fun k => binQ Try.prog w .leq 3 true t18 (.int .i64 4) fun v => k v w) w fun t19 w =>
  pickQ t15 t19 (.bool false) fun t20 =>
  gd t20 true (fun k => fa1 t1 2 fun v => k v w) w fun t22 w =>
  gd t20 true (fun k => ld1 w t22 fun v => k v w) w fun t23 w =>
  gd t20 true (fun k => binQ Try.prog w .geq 3 true t23 (.int .i64 1) fun v => k v w) w fun t24 w =>
  pickQ t20 t24 (.bool false) fun t25 =>
  gd t25 true (fun k => fa1 t1 2 fun v => k v w) w fun t27 w =>
  gd t25 true (fun k => ld1 w t27 fun v => k v w) w fun t28 w =>
  gd t25 true (fun k => binQ Try.prog w .leq 3 true t28 (.int .i64 4) fun v => k v w) w fun t29 w =>
  pickQ t25 t29 (.bool false) fun t30 =>
  R (.returned t30) w

def A62 : Ann where
  live := fun _ => []
  wr := fun _ _ => false
  sched := fun _ => .done

set_option maxRecDepth 100000 in
theorem ok62 : (codeOk Try.f62.ntmps A62 (Try.f62.body.getD .skip) 0 && Nat.ble 1 Try.f62.ntmps) = true := by kernel_rfl
set_option maxRecDepth 100000 in
theorem lift62 {t0 : Value} {w : World} {R : Ending → World → Prop} (h : S62 t0 w R) : Calls Try.prog 62 #[t0] w R :=
  calls_of_cw (fn := Try.f62) (c := Try.f62.body.getD .skip) A62 mixes Try.func62 (by kernel_rfl) ok62
    ((by kernel_rfl : (S62 t0 w R) = cw Try.prog A62 (Try.f62.body.getD .skip) 0 (bodyQ Try.prog Try.f62 R) (frOf #[t0]) w).mp h)

def S66 (t0 : Value) (w : World) (R : Ending → World → Prop) : Prop :=
  boxW 25 t0 w fun t1 w =>
  Loop2 (.slice none 0 0) (.int .i64 0) w fun _ t3 t4 w next =>
    fa1 t1 0 fun t6 =>
    ld1 w t6 fun t7 =>
    binQ Try.prog w .lss 3 false t4 t7 fun t8 =>
    condW t8 (
      fa1 t1 1 fun t12 =>
      ld1 w t12 fun t13 =>
      mkW Try.prog 36 t13 t13 w fun t14 w =>
      bsW Try.prog 26 1 [(0, t14)] w fun t15 w =>
      semW Try.prog (apS [26, 26] 26 [t3, t15]) w fun t16 w =>
      binQ Try.prog w .add 3 true t4 (.int .i64 1) fun t10 =>
      next t16 t10 w
    ) (
      R (.returned t3) w
    )

def A66 : Ann where
  live := fun
    | 0 => [3, 4]
    | _ => []
  wr := fun
    | 0 => fun i => (Nat.ble 3 i && Nat.ble i 16)
    | _ => fun _ => false
  sched := fun _ => .done

set_option maxRecDepth 100000 in
theorem ok66 : (codeOk Try.f66.ntmps A66 (Try.f66.body.getD .skip) 0 && Nat.ble 1 Try.f66.ntmps) = true := by kernel_rfl
set_option maxRecDepth 100000 in
theorem lift66 {t0 : Value} {w : World} {R : Ending → World → Prop} (h : S66 t0 w R) : Calls Try.prog 66 #[t0] w R :=
  calls_of_cw (fn := Try.f66) (c := Try.f66.body.getD .skip) A66 mixes Try.func66 (by kernel_rfl) ok66
    ((by kernel_rfl : (S66 t0 w R) = cw Try.prog A66 (Try.f66.body.getD .skip) 0 (bodyQ Try.prog Try.f66 R) (frOf #[t0]) w).mp h)

def S67 (t0 t1 : Value) (w : World) (R : Ending → World → Prop) : Prop :=
  boxW 25 t0 w fun t2 w =>
  ln1 t1 fun t10 =>
  fa1 t2 0 fun t11 =>
  ld1 w t11 fun t12 =>
  binQ Try.prog w .neq 3 false t10 t12 fun t13 =>
  condW t13 (
    R (.returned (.bool false)) w
  ) (
    ln1 t1 fun t15 =>
    Loop1 (.int .i64 0) w fun _ t16 w next =>
      binQ Try.prog w .lss 3 false t16 t15 fun t17 =>
      condW t17 (
        iaS 1 t1 t16 fun t19 =>
        ld1 w t19 fun t20 =>
        ln1 t20 fun t22 =>
        fa1 t2 1 fun t23 =>
        ld1 w t23 fun t24 =>
        binQ Try.prog w .neq 3 false t22 t24 fun t25 =>
        condW t25 (
          R (.returned (.bool false)) w
        ) (
          ln1 t20 fun t27 =>
          Loop1 (.int .i64 0) w fun _ t28 w next_2 =>
            binQ Try.prog w .lss 3 false t28 t27 fun t29 =>
            condW t29 (
              iaS 1 t20 t28 fun t31 =>
              ld1 w t31 fun t32 =>
              binQ Try.prog w .lss 3 true t32 (.int .i64 0) fun t34 =>
              gd t34 false (fun k => k t32 w) w fun t36 w =>
              gd t34 false (fun k => fa1 t2 2 fun v => k v w) w fun t37 w =>
              gd t34 false (fun k => ld1 w t37 fun v => k v w) w fun t38 w =>
              gd t34 false (fun k => binQ Try.prog w .gtr 3 false t36 t38 fun v => k v w) w fun t39 w =>
              pickQ t34 (.bool true) t39 fun t40 =>
              gd t40 false (fun k => k t28 w) w fun t42 w =>
              gd t40 false (fun k => binQ Try.prog w .gtr 3 true t42 (.int .i64 0) fun v => k v w) w fun t43 w =>
              gd t40 false (fun k => k t43 w) w fun t44 w =>
              gd t44 true (fun k => k t32 w) w fun t45 w =>
              gd t44 true (fun k => k t20 w) w fun t46 w =>
              gd t44 true (fun k => k t28 w) w fun t47 w =>
              gd t44 true (fun k => binQ Try.prog w .sub 3 true t47 (.int .i64 1) fun v => k v w) w fun t48 w =>
              gd t44 true (fun k => iaS 1 t46 t48 fun v => k v w) w fun t49 w =>
              gd t44 true (fun k => ld1 w t49 fun v => k v w) w fun t50 w =>
              gd t44 true (fun k => binQ Try.prog w .gtr 3 false t45 t50 fun v => k v w) w fun t51 w =>
              gd t40 false (fun k => pickQ t44 t51 (.bool false) fun v => k v w) w fun t52 w =>
              pickQ t40 (.bool true) t52 fun t53 =>
              gd t53 false (fun k => k t16 w) w fun t55 w =>
              gd t53 false (fun k => binQ Try.prog w .gtr 3 true t55 (.int .i64 0) fun v => k v w) w fun t56 w =>
              gd t53 false (fun k => k t56 w) w fun t57 w =>
              gd t57 true (fun k => k t32 w) w fun t58 w =>
              gd t57 true (fun k => k t1 w) w fun t59 w =>
              gd t57 true (fun k => k t16 w) w fun t60 w =>
              gd t57 true (fun k => binQ Try.prog w .sub 3 true t60 (.int .i64 1) fun v => k v w) w fun t61 w =>
              gd t57 true (fun k => iaS 1 t59 t61 fun v => k v w) w fun t62 w =>
              gd t57 true (fun k => ld1 w t62 fun v => k v w) w fun t63 w =>
              gd t57 true (fun k => k t28 w) w fun t64 w =>
              gd t57 true (fun k => iaS 1 t63 t64 fun v => k v w) w fun t65 w =>
              gd t57 true (fun k => ld1 w t65 fun v => k v w) w fun t66 w =>
              gd t57 true (fun k => binQ Try.prog w .gtr 3 false t58 t66 fun v => k v w) w fun t67 w =>
              gd t53 false (fun k => pickQ t57 t67 (.bool false) fun v => k v w) w fun t68 w =>
              pickQ t53 (.bool true) t68 fun t69 =>
              condW t69 (
                R (.returned (.bool false)) w
              ) (
                binQ Try.prog w .add 3 true t28 (.int .i64 1) fun t70 =>
                next_2 t70 w
              )
            ) (
              binQ Try.prog w .add 3 true t16 (.int .i64 1) fun t71 =>
              next t71 w
            )
        )
      ) (
        R (.returned (.bool true)) w
      )
  )

def A67 : Ann where
  live := fun
    | 0 => [16]
    | 2 => [28]
    | _ => []
  wr := fun
    | 0 => fun i => (Nat.ble 4 i && Nat.ble i 8) || (Nat.ble 16 i && Nat.ble i 71)
    | 2 => fun i => Nat.beq i 4 || (Nat.ble 7 i && Nat.ble i 8) || (Nat.ble 28 i && Nat.ble i 70)
    | _ => fun _ => false
  sched := fun _ => .done

set_option maxRecDepth 100000 in
theorem ok67 : (codeOk Try.f67.ntmps A67 (Try.f67.body.getD .skip) 0 && Nat.ble 2 Try.f67.ntmps) = true := by kernel_rfl
set_option maxRecDepth 100000 in
theorem lift67 {t0 t1 : Value} {w : World} {R : Ending → World → Prop} (h : S67 t0 t1 w R) : Calls Try.prog 67 #[t0, t1] w R :=
  calls_of_cw (fn := Try.f67) (c := Try.f67.body.getD .skip) A67 mixes Try.func67 (by kernel_rfl) ok67
    ((by kernel_rfl : (S67 t0 t1 w R) = cw Try.prog A67 (Try.f67.body.getD .skip) 0 (bodyQ Try.prog Try.f67 R) (frOf #[t0, t1]) w).mp h)

def S77 (t0 t1 : Value) (w : World) (R : Ending → World → Prop) : Prop :=
  ln1 t0 fun t9 =>
  Loop2 (.int .i64 0) (.int .i64 0) w fun _ t5 t10 w next =>
    binQ Try.prog w .lss 3 false t10 t9 fun t11 =>
    condW t11 (
      iaS 1 t0 t10 fun t12 =>
      ld1 w t12 fun t13 =>
      binQ Try.prog w .gtr 3 false t13 t1 fun t16 =>
      Join (fun (k_2 : Value → World → Prop) =>
        condW t16 (
          binQ Try.prog w .add 3 true t5 (.int .i64 1) fun t18 =>
          k_2 t18 w
        ) (
          k_2 t5 w
        )
      ) fun t5_2 w =>
      binQ Try.prog w .add 3 true t10 (.int .i64 1) fun t19_2 =>
      next t5_2 t19_2 w
    ) (
      R (.returned t5) w
    )

def A77 : Ann where
  live := fun
    | 0 => [5, 10]
    | _ => []
  wr := fun
    | 0 => fun i => Nat.beq i 5 || Nat.beq i 7 || (Nat.ble 10 i && Nat.ble i 19)
    | _ => fun _ => false
  sched := fun _ => .done

set_option maxRecDepth 100000 in
theorem ok77 : (codeOk Try.f77.ntmps A77 (Try.f77.body.getD .skip) 0 && Nat.ble 2 Try.f77.ntmps) = true := by kernel_rfl
set_option maxRecDepth 100000 in
theorem lift77 {t0 t1 : Value} {w : World} {R : Ending → World → Prop} (h : S77 t0 t1 w R) : Calls Try.prog 77 #[t0, t1] w R :=
  calls_of_cw (fn := Try.f77) (c := Try.f77.body.getD .skip) A77 mixes Try.func77 (by kernel_rfl) ok77
    ((by kernel_rfl : (S77 t0 t1 w R) = cw Try.prog A77 (Try.f77.body.getD .skip) 0 (bodyQ Try.prog Try.f77 R) (frOf #[t0, t1]) w).mp h)

theorem fok13 : fnOk Try.prog 13 = true := by kernel_rfl
theorem fok15 : fnOk Try.prog 15 = true := by kernel_rfl
theorem fok23 : fnOk Try.prog 23 = true := by kernel_rfl
theorem fok34 : fnOk Try.prog 34 = true := by kernel_rfl
theorem fok47 : fnOk Try.prog 47 = true := by kernel_rfl
theorem fok48 : fnOk Try.prog 48 = true := by kernel_rfl
theorem fok58 : fnOk Try.prog 58 = true := by kernel_rfl
theorem fok62 : fnOk Try.prog 62 = true := by kernel_rfl
theorem fok66 : fnOk Try.prog 66 = true := by kernel_rfl
theorem fok67 : fnOk Try.prog 67 = true := by kernel_rfl
theorem fok77 : fnOk Try.prog 77 = true := by kernel_rfl
end Go.Proofs.Ytaephdjmpmbfpaa
