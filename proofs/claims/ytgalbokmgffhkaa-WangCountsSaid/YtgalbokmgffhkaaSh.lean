/- Lifted texts, printed by program (gen.py): what each function's code asks. The ties are by the kernel. -/
import Derived.Test.YtgalbokmgffhkaaBase
set_option linter.all false
namespace Go.Proofs.Ytgalbokmgffhkaa
open Go.Lf Go.RowKit

def S49L1 (t1 t48 t49 : Value) (R : Ending → World → Prop) (w : World) : Prop :=
  Loop2 (.slice none 0 0) (.int .i64 0) w fun _ t9 t50 w next_2 =>
    binQ Try.prog w .lss 3 false t50 t49 fun t51 =>
    condW t51 (
      iaS 1 t48 t50 fun t52 =>
      ld1 w t52 fun t53 =>
      ln1 t1 fun t57 =>
      callW Try.prog (.func (.func 83) #[] #[]) [t53, t57] w fun t58 w =>
      bsW Try.prog 23 1 [(0, t58)] w fun t59 w =>
      semW Try.prog (apS [23, 23] 23 [t9, t59]) w fun t60 w =>
      binQ Try.prog w .add 3 true t50 (.int .i64 1) fun t61 =>
      next_2 t60 t61 w
    ) (
      R (.returned (.tuple #[t9, (.int .i64 0)])) w
    )

def S49L0 (t1 t28 t29 : Value) (R : Ending → World → Prop) (w : World) : Prop :=
  Loop2 (.slice none 0 0) (.int .i64 0) w fun _ t6 t30 w next =>
    binQ Try.prog w .lss 3 false t30 t29 fun t31 =>
    condW t31 (
      iaS 7 t28 t30 fun t32 =>
      ldN 7 w t32 fun t33 =>
      boxW 78 (.agg #[(.int .i64 0), (.int .i64 0), (.int .i64 0), (.int .i64 0), (.int .i64 0), (.int .i64 0), (.bool false)]) w fun t8 w =>
      stW Try.prog 78 t8 t33 w fun w =>
      Drew w fun w =>
      fa1 t8 4 fun t34 =>
      ld1 w t34 fun t35 =>
      callW Try.prog (.func (.func 58) #[] #[]) [t1] w <| keepB w fun t37 w =>
      binQ Try.prog w .eql 3 false t35 t37 fun t38 =>
      Join (fun (k_2 : Value → World → Prop) =>
        condW t38 (
          fa1 t8 5 fun t40 =>
          ld1 w t40 fun t41 =>
          bsW Try.prog 30 1 [(0, t41)] w fun t42 w =>
          semW Try.prog (apS [30, 30] 30 [t6, t42]) w fun t43 w =>
          k_2 t43 w
        ) (
          k_2 t6 w
        )
      ) fun t6_2 w =>
      binQ Try.prog w .add 3 true t30 (.int .i64 1) fun t44_2 =>
      next t6_2 t44_2 w
    ) (
      callW Try.prog (.func (.func 97) #[] #[]) [t6] w fun t46 w =>
      callW Try.prog (.func (.func 98) #[] #[]) [t6] w fun t48 w =>
      ln1 t48 fun t49 =>
      S49L1 t1 t48 t49 R w
    )

def S49 (t0 t1 : Value) (w : World) (R : Ending → World → Prop) : Prop :=
  callW Try.prog (.func (.func 65) #[] #[]) [t0] w fun t13 w =>
  unQ .not t13 fun t14 =>
  gd t14 false (fun k => k t1 w) w fun t16 w =>
  gd t14 false (fun k => ln1 t16 fun v => k v w) w fun t17 w =>
  gd t14 false (fun k => callW Try.prog (.func (.func 66) #[] #[]) [t17] w k) w fun t18 w =>
  gd t14 false (fun k => unQ .not t18 fun v => k v w) w fun t19 w =>
  pickQ t14 (.bool true) t19 fun t20 =>
  gd t20 false (fun k => k t1 w) w fun t22 w =>
  gd t20 false (fun k => callW Try.prog (.func (.func 54) #[] #[]) [t22, (.func (.func 96) #[] #[])] w k) w fun t23 w =>
  pickQ t20 (.bool true) t23 fun t24 =>
  condW t24 (
    R (.returned (.tuple #[(.slice none 0 0), (.int .i64 2)])) w
  ) (
    ln1 t1 fun t27 =>
    callW Try.prog (.func (.func 59) #[] #[]) [t0, t27] w fun t28 w =>
    ln1 t28 fun t29 =>
    S49L0 t1 t28 t29 R w
  )

def A49 : Ann where
  live := fun
    | 0 => [6, 30]
    | 2 => [9, 50]
    | _ => []
  wr := fun
    | 0 => fun i => Nat.beq i 6 || Nat.beq i 8 || (Nat.ble 30 i && Nat.ble i 44)
    | 2 => fun i => Nat.beq i 9 || Nat.beq i 11 || (Nat.ble 50 i && Nat.ble i 61)
    | _ => fun _ => false
  sched := fun
    | 7 => (.take 0 (.take 1 (.take 2 (.eff 3 (.take 4 .done)))))
    | _ => .done

set_option maxRecDepth 100000 in
theorem ok49 : (codeOk Try.f49.ntmps A49 (Try.f49.body.getD .skip) 0 && Nat.ble 2 Try.f49.ntmps) = true := by kernel_rfl
set_option maxRecDepth 100000 in
theorem lift49 {t0 t1 : Value} {w : World} {R : Ending → World → Prop} (h : S49 t0 t1 w R) : Calls Try.prog 49 #[t0, t1] w R :=
  calls_of_cw (fn := Try.f49) (c := Try.f49.body.getD .skip) A49 mixes Try.func49 (by kernel_rfl) ok49
    ((by kernel_rfl : (S49 t0 t1 w R) = cw Try.prog A49 (Try.f49.body.getD .skip) 0 (bodyQ Try.prog Try.f49 R) (frOf #[t0, t1]) w).mp h)

def S96 (t0 : Value) (w : World) (R : Ending → World → Prop) : Prop :=
  callW Try.prog (.func (.func 56) #[] #[]) [t0] w fun t4 w =>
  unQ .not t4 fun t5 =>
  R (.returned t5) w

def A96 : Ann where
  live := fun _ => []
  wr := fun _ _ => false
  sched := fun _ => .done

set_option maxRecDepth 100000 in
theorem ok96 : (codeOk Try.f96.ntmps A96 (Try.f96.body.getD .skip) 0 && Nat.ble 1 Try.f96.ntmps) = true := by kernel_rfl
set_option maxRecDepth 100000 in
theorem lift96 {t0 : Value} {w : World} {R : Ending → World → Prop} (h : S96 t0 w R) : Calls Try.prog 96 #[t0] w R :=
  calls_of_cw (fn := Try.f96) (c := Try.f96.body.getD .skip) A96 mixes Try.func96 (by kernel_rfl) ok96
    ((by kernel_rfl : (S96 t0 w R) = cw Try.prog A96 (Try.f96.body.getD .skip) 0 (bodyQ Try.prog Try.f96 R) (frOf #[t0]) w).mp h)

def S98L1 (t0 t3 t28 : Value) (R : Ending → World → Prop) (w : World) : Prop :=
  Loop2 t3 (.int .i64 1) w fun _ t3_2 t5 w next_2 =>
    ln1 t28 fun t31 =>
    binQ Try.prog w .lss 3 false t5 t31 fun t32 =>
    condW t32 (
      Drew w fun w =>
      iaS 1 t28 t5 fun t37 =>
      ld1 w t37 fun t38 =>
      binQ Try.prog w .sub 3 true t5 (.int .i64 1) fun t41 =>
      iaS 1 t28 t41 fun t42 =>
      ld1 w t42 fun t43 =>
      binQ Try.prog w .neq 3 false t38 t43 fun t44 =>
      Join (fun (k_2 : Value → World → Prop) =>
        condW t44 (
          iaS 1 t28 t5 fun t49 =>
          ld1 w t49 fun t50 =>
          iaS 1 t0 t3_2 fun t51 =>
          stW Try.prog 3 t51 t50 w fun w =>
          binQ Try.prog w .add 3 true t3_2 (.int .i64 1) fun t53 =>
          k_2 t53 w
        ) (
          k_2 t3_2 w
        )
      ) fun t3_3 w =>
      binQ Try.prog w .add 3 true t5 (.int .i64 1) fun t34_2 =>
      next_2 t3_3 t34_2 w
    ) (
      slS 1 t0 (some t3_2) none fun t56 =>
      semW Try.prog (clS [30] 0 [t56]) w fun _ w =>
      slS 1 t0 none (some t3_2) fun t59 =>
      R (.returned t59) w
    )

def S98L0 (t0 : Value) (R : Ending → World → Prop) (w : World) : Prop :=
  Loop1 (.int .i64 1) w fun _ t3 w next =>
    ln1 t0 fun t12 =>
    binQ Try.prog w .lss 3 false t3 t12 fun t13 =>
    condW t13 (
      Drew w fun w =>
      iaS 1 t0 t3 fun t18 =>
      ld1 w t18 fun t19 =>
      binQ Try.prog w .sub 3 true t3 (.int .i64 1) fun t22 =>
      iaS 1 t0 t22 fun t23 =>
      ld1 w t23 fun t24 =>
      binQ Try.prog w .eql 3 false t19 t24 fun t25 =>
      condW t25 (
        slS 1 t0 (some t3) none fun t28 =>
        S98L1 t0 t3 t28 R w
      ) (
        binQ Try.prog w .add 3 true t3 (.int .i64 1) fun t15 =>
        next t15 w
      )
    ) (
      R (.returned t0) w
    )

def S98 (t0 : Value) (w : World) (R : Ending → World → Prop) : Prop :=
  ln1 t0 fun t7 =>
  binQ Try.prog w .lss 3 true t7 (.int .i64 2) fun t8 =>
  condW t8 (
    R (.returned t0) w
  ) (
    S98L0 t0 R w
  )

def A98 : Ann where
  live := fun
    | 0 => [3]
    | 2 => [3, 5]
    | _ => []
  wr := fun
    | 0 => fun i => (Nat.ble 2 i && Nat.ble i 5) || (Nat.ble 10 i && Nat.ble i 59)
    | 2 => fun i => Nat.beq i 3 || Nat.beq i 5 || (Nat.ble 29 i && Nat.ble i 53)
    | _ => fun _ => false
  sched := fun
    | 6 => (.take 0 (.take 1 (.take 2 (.take 3 (.take 4 (.take 5 (.take 6 (.take 7 (.take 8 (.take 9 .done))))))))))
    | 11 => (.take 0 (.take 1 (.take 2 (.take 3 (.take 4 (.take 5 (.take 6 (.take 7 (.take 8 (.take 9 .done))))))))))
    | _ => .done

set_option maxRecDepth 100000 in
theorem ok98 : (codeOk Try.f98.ntmps A98 (Try.f98.body.getD .skip) 0 && Nat.ble 1 Try.f98.ntmps) = true := by kernel_rfl
set_option maxRecDepth 100000 in
theorem lift98 {t0 : Value} {w : World} {R : Ending → World → Prop} (h : S98 t0 w R) : Calls Try.prog 98 #[t0] w R :=
  calls_of_cw (fn := Try.f98) (c := Try.f98.body.getD .skip) A98 mixes Try.func98 (by kernel_rfl) ok98
    ((by kernel_rfl : (S98 t0 w R) = cw Try.prog A98 (Try.f98.body.getD .skip) 0 (bodyQ Try.prog Try.f98 R) (frOf #[t0]) w).mp h)

def S14L1 (t7 t34 : Value) (next : Value → World → Prop) (w : World) : Prop :=
  Loop1 (.int .i64 0) w fun _ t10 w next_2 =>
    ln1 t34 fun t47 =>
    binQ Try.prog w .lss 3 false t10 t47 fun t48 =>
    condW t48 (
      iaS 1 t34 t10 fun t53 =>
      ld1 w t53 fun t54 =>
      iaS 1 t54 (.int .i64 0) fun t55 =>
      stW Try.prog 3 t55 (.int .i64 99) w fun w =>
      binQ Try.prog w .add 3 true t10 (.int .i64 1) fun t50 =>
      next_2 t50 w
    ) (
      binQ Try.prog w .add 3 true t7 (.int .i64 1) fun t29 =>
      next t29 w
    )

def S14L0 (t0 t1 t24 t25 : Value) (R : Ending → World → Prop) (w : World) : Prop :=
  Loop1 (.int .i64 0) w fun _ t7 w next =>
    binQ Try.prog w .lss 3 true t7 (.int .i64 2) fun t27 =>
    condW t27 (
      callW Try.prog (.func (.func 49) #[] #[]) [t0, t1] w fun t33 w =>
      exQ t33 0 fun t34 =>
      exQ t33 1 fun t35 =>
      binQ Try.prog w .neq 26 false t35 t25 fun t38 =>
      gd t38 false (fun k => k t34 w) w fun t40 w =>
      gd t38 false (fun k => k t24 w) w fun t41 w =>
      gd t38 false (fun k => callW Try.prog (.func (.func 29) #[] #[]) [t40, t41] w k) w fun t42 w =>
      gd t38 false (fun k => unQ .not t42 fun v => k v w) w fun t43 w =>
      pickQ t38 (.bool true) t43 fun t44 =>
      condW t44 (
        R (.returned (.bool false)) w
      ) (
        S14L1 t7 t34 next w
      )
    ) (
      callW Try.prog (.func (.func 18) #[] #[]) [] w fun t56 w =>
      R (.returned t56) w
    )

def S14 (t0 t1 : Value) (w : World) (R : Ending → World → Prop) : Prop :=
  ln1 t0 fun t12 =>
  binQ Try.prog w .gtr 3 true t12 (.int .i64 40) fun t13 =>
  gd t13 false (fun k => k t1 w) w fun t15 w =>
  gd t13 false (fun k => ln1 t15 fun v => k v w) w fun t16 w =>
  gd t13 false (fun k => binQ Try.prog w .gtr 3 true t16 (.int .i64 20) fun v => k v w) w fun t17 w =>
  pickQ t13 (.bool true) t17 fun t18 =>
  condW t18 (
    callW Try.prog (.func (.func 18) #[] #[]) [] w fun t19 w =>
    R (.returned t19) w
  ) (
    callW Try.prog (.func (.func 48) #[] #[]) [t0, t1] w fun t23 w =>
    exQ t23 0 fun t24 =>
    exQ t23 1 fun t25 =>
    S14L0 t0 t1 t24 t25 R w
  )

def A14 : Ann where
  live := fun
    | 0 => [7]
    | 2 => [10]
    | _ => []
  wr := fun
    | 0 => fun i => Nat.beq i 4 || (Nat.ble 7 i && Nat.ble i 10) || (Nat.ble 26 i && Nat.ble i 55)
    | 2 => fun i => Nat.beq i 10 || (Nat.ble 45 i && Nat.ble i 55)
    | _ => fun _ => false
  sched := fun _ => .done

set_option maxRecDepth 100000 in
theorem ok14 : (codeOk Try.f14.ntmps A14 (Try.f14.body.getD .skip) 0 && Nat.ble 2 Try.f14.ntmps) = true := by kernel_rfl
set_option maxRecDepth 100000 in
theorem lift14 {t0 t1 : Value} {w : World} {R : Ending → World → Prop} (h : S14 t0 t1 w R) : Calls Try.prog 14 #[t0, t1] w R :=
  calls_of_cw (fn := Try.f14) (c := Try.f14.body.getD .skip) A14 mixes Try.func14 (by kernel_rfl) ok14
    ((by kernel_rfl : (S14 t0 t1 w R) = cw Try.prog A14 (Try.f14.body.getD .skip) 0 (bodyQ Try.prog Try.f14 R) (frOf #[t0, t1]) w).mp h)

def S29L0 (t0 t1 : Value) (R : Ending → World → Prop) (w : World) : Prop :=
  Loop1 (.int .i64 0) w fun _ t5 w next =>
    ln1 t0 fun t13 =>
    binQ Try.prog w .lss 3 false t5 t13 fun t14 =>
    condW t14 (
      Drew w fun w =>
      iaS 1 t0 t5 fun t19 =>
      ld1 w t19 fun t20 =>
      iaS 1 t1 t5 fun t23 =>
      ld1 w t23 fun t24 =>
      callW Try.prog (.func (.func 43) #[] #[]) [t20, t24] w fun t25 w =>
      unQ .not t25 fun t26 =>
      condW t26 (
        R (.returned (.bool false)) w
      ) (
        binQ Try.prog w .add 3 true t5 (.int .i64 1) fun t16 =>
        next t16 w
      )
    ) (
      R (.returned (.bool true)) w
    )

def S29 (t0 t1 : Value) (w : World) (R : Ending → World → Prop) : Prop :=
  ln1 t0 fun t7 =>
  ln1 t1 fun t9 =>
  binQ Try.prog w .neq 3 false t7 t9 fun t10 =>
  condW t10 (
    R (.returned (.bool false)) w
  ) (
    S29L0 t0 t1 R w
  )

def A29 : Ann where
  live := fun
    | 0 => [5]
    | _ => []
  wr := fun
    | 0 => fun i => (Nat.ble 4 i && Nat.ble i 5) || (Nat.ble 11 i && Nat.ble i 26)
    | _ => fun _ => false
  sched := fun
    | 6 => (.take 0 (.take 1 (.take 2 (.take 3 (.take 4 (.take 5 (.take 6 (.take 7 (.bar 8 (.take 9 .done))))))))))
    | _ => .done

set_option maxRecDepth 100000 in
theorem ok29 : (codeOk Try.f29.ntmps A29 (Try.f29.body.getD .skip) 0 && Nat.ble 2 Try.f29.ntmps) = true := by kernel_rfl
set_option maxRecDepth 100000 in
theorem lift29 {t0 t1 : Value} {w : World} {R : Ending → World → Prop} (h : S29 t0 t1 w R) : Calls Try.prog 29 #[t0, t1] w R :=
  calls_of_cw (fn := Try.f29) (c := Try.f29.body.getD .skip) A29 mixes Try.func29 (by kernel_rfl) ok29
    ((by kernel_rfl : (S29 t0 t1 w R) = cw Try.prog A29 (Try.f29.body.getD .skip) 0 (bodyQ Try.prog Try.f29 R) (frOf #[t0, t1]) w).mp h)

theorem fok49 : fnOk Try.prog 49 = true := by kernel_rfl
theorem fok96 : fnOk Try.prog 96 = true := by kernel_rfl
theorem fok98 : fnOk Try.prog 98 = true := by kernel_rfl
theorem fok14 : fnOk Try.prog 14 = true := by kernel_rfl
theorem fok29 : fnOk Try.prog 29 = true := by kernel_rfl
end Go.Proofs.Ytgalbokmgffhkaa
