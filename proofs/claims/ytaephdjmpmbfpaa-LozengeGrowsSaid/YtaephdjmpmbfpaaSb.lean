/- Lifted texts, printed by program (gen.py): what each function's code asks. The ties are by the kernel. -/
import Derived.Test.YtaephdjmpmbfpaaBase
set_option linter.all false
namespace Go.Proofs.Ytaephdjmpmbfpaa
open Go.Lf Go.RowKit

def S93 (t0 : Value) (w : World) (R : Ending → World → Prop) : Prop :=
  binQ Try.prog w .neq 3 false t0 t0 fun t5 =>
  R (.returned t5) w

def A93 : Ann where
  live := fun _ => []
  wr := fun _ _ => false
  sched := fun _ => .done

set_option maxRecDepth 100000 in
theorem ok93 : (codeOk Try.f93.ntmps A93 (Try.f93.body.getD .skip) 0 && Nat.ble 1 Try.f93.ntmps) = true := by kernel_rfl
set_option maxRecDepth 100000 in
theorem lift93 {t0 : Value} {w : World} {R : Ending → World → Prop} (h : S93 t0 w R) : Calls Try.prog 93 #[t0] w R :=
  calls_of_cw (fn := Try.f93) (c := Try.f93.body.getD .skip) A93 mixes Try.func93 (by kernel_rfl) ok93
    ((by kernel_rfl : (S93 t0 w R) = cw Try.prog A93 (Try.f93.body.getD .skip) 0 (bodyQ Try.prog Try.f93 R) (frOf #[t0]) w).mp h)

def S81 (t0 t1 : Value) (w : World) (R : Ending → World → Prop) : Prop :=
  callW Try.prog (.func (.func 93) #[] #[]) [t0] w fun t8 w =>
  callW Try.prog (.func (.func 93) #[] #[]) [t1] w fun t10 w =>
  condW t8 (
    condW t10 (
      R (.returned (.int .i64 0)) w
    ) (
      R (.returned (.int .i64 (-1))) w
    )
  ) (
    condW t10 (
      R (.returned (.int .i64 1)) w
    ) (
      binQ Try.prog w .lss 3 false t0 t1 fun t16 =>
      condW t16 (
        R (.returned (.int .i64 (-1))) w
      ) (
        binQ Try.prog w .gtr 3 false t0 t1 fun t19 =>
        condW t19 (
          R (.returned (.int .i64 1)) w
        ) (
          R (.returned (.int .i64 0)) w
        )
      )
    )
  )

def A81 : Ann where
  live := fun _ => []
  wr := fun _ _ => false
  sched := fun _ => .done

set_option maxRecDepth 100000 in
theorem ok81 : (codeOk Try.f81.ntmps A81 (Try.f81.body.getD .skip) 0 && Nat.ble 2 Try.f81.ntmps) = true := by kernel_rfl
set_option maxRecDepth 100000 in
theorem lift81 {t0 t1 : Value} {w : World} {R : Ending → World → Prop} (h : S81 t0 t1 w R) : Calls Try.prog 81 #[t0, t1] w R :=
  calls_of_cw (fn := Try.f81) (c := Try.f81.body.getD .skip) A81 mixes Try.func81 (by kernel_rfl) ok81
    ((by kernel_rfl : (S81 t0 t1 w R) = cw Try.prog A81 (Try.f81.body.getD .skip) 0 (bodyQ Try.prog Try.f81 R) (frOf #[t0, t1]) w).mp h)

def S56 (t0 t1 : Value) (w : World) (R : Ending → World → Prop) : Prop :=
  ln1 t0 fun t10 =>
  Loop1 (.int .i64 0) w fun _ t11 w next =>
    binQ Try.prog w .lss 3 false t11 t10 fun t12 =>
    condW t12 (
      iaS 1 t0 t11 fun t14 =>
      ld1 w t14 fun t15 =>
      ln1 t1 fun t18 =>
      binQ Try.prog w .geq 3 false t11 t18 fun t19 =>
      condW t19 (
        R (.returned (.int .i64 1)) w
      ) (
        iaS 1 t1 t11 fun t22 =>
        ld1 w t22 fun t23 =>
        callW Try.prog (.func (.func 81) #[] #[]) [t15, t23] w fun t26 w =>
        binQ Try.prog w .neq 3 true t26 (.int .i64 0) fun t28 =>
        condW t28 (
          R (.returned t26) w
        ) (
          binQ Try.prog w .add 3 true t11 (.int .i64 1) fun t30 =>
          next t30 w
        )
      )
    ) (
      ln1 t0 fun t32 =>
      ln1 t1 fun t34 =>
      binQ Try.prog w .lss 3 false t32 t34 fun t35 =>
      condW t35 (
        R (.returned (.int .i64 (-1))) w
      ) (
        R (.returned (.int .i64 0)) w
      )
    )

def A56 : Ann where
  live := fun
    | 0 => [11]
    | _ => []
  wr := fun
    | 0 => fun i => (Nat.ble 4 i && Nat.ble i 8) || (Nat.ble 11 i && Nat.ble i 30)
    | _ => fun _ => false
  sched := fun _ => .done

set_option maxRecDepth 100000 in
theorem ok56 : (codeOk Try.f56.ntmps A56 (Try.f56.body.getD .skip) 0 && Nat.ble 2 Try.f56.ntmps) = true := by kernel_rfl
set_option maxRecDepth 100000 in
theorem lift56 {t0 t1 : Value} {w : World} {R : Ending → World → Prop} (h : S56 t0 t1 w R) : Calls Try.prog 56 #[t0, t1] w R :=
  calls_of_cw (fn := Try.f56) (c := Try.f56.body.getD .skip) A56 mixes Try.func56 (by kernel_rfl) ok56
    ((by kernel_rfl : (S56 t0 t1 w R) = cw Try.prog A56 (Try.f56.body.getD .skip) 0 (bodyQ Try.prog Try.f56 R) (frOf #[t0, t1]) w).mp h)

def S52 (t0 : Value) (w : World) (R : Ending → World → Prop) : Prop :=
  boxW 25 t0 w fun t1 w =>
  boxW 77 (.agg #[(.int .i64 0), (.int .i64 0), (.int .i64 0), (.map none)]) w fun t2 w =>
  ldN 3 w t1 fun t3 =>
  mmW w fun t4 w =>
  bdQ Try.prog 77 [(0, t3), (1, t4)] fun t5 =>
  stW Try.prog 77 t2 t5 w fun w =>
  ldN 4 w t2 fun r =>
  R (.returned r) w

def A52 : Ann where
  live := fun _ => []
  wr := fun _ _ => false
  sched := fun _ => .done

set_option maxRecDepth 100000 in
theorem ok52 : (codeOk Try.f52.ntmps A52 (Try.f52.body.getD .skip) 0 && Nat.ble 1 Try.f52.ntmps) = true := by kernel_rfl
set_option maxRecDepth 100000 in
theorem lift52 {t0 : Value} {w : World} {R : Ending → World → Prop} (h : S52 t0 w R) : Calls Try.prog 52 #[t0] w R :=
  calls_of_cw (fn := Try.f52) (c := Try.f52.body.getD .skip) A52 mixes Try.func52 (by kernel_rfl) ok52
    ((by kernel_rfl : (S52 t0 w R) = cw Try.prog A52 (Try.f52.body.getD .skip) 0 (bodyQ Try.prog Try.f52 R) (frOf #[t0]) w).mp h)

def S53 (t0 : Value) (w : World) (R : Ending → World → Prop) : Prop :=
  boxW 25 t0 w fun t1 w =>
  boxW 80 (.agg #[(.int .i64 0), (.int .i64 0), (.int .i64 0), (.int .i64 0)]) w fun t2 w =>
  boxW 80 (.agg #[(.int .i64 0), (.int .i64 0), (.int .i64 0), (.int .i64 0)]) w fun t3 w =>
  fa1 t1 1 fun t5 =>
  ld1 w t5 fun t6 =>
  Loop1 (.int .i64 0) w fun _ t7 w next =>
    binQ Try.prog w .lss 3 false t7 t6 fun t8 =>
    condW t8 (
      fa1 t1 2 fun t11 =>
      ld1 w t11 fun t12 =>
      iaA 4 1 t3 t7 fun t13 =>
      stW Try.prog 3 t13 t12 w fun w =>
      binQ Try.prog w .add 3 true t7 (.int .i64 1) fun t14 =>
      next t14 w
    ) (
      ldN 4 w t3 fun t15 =>
      stW Try.prog 80 t2 t15 w fun w =>
      ldN 4 w t2 fun r =>
      R (.returned r) w
    )

def A53 : Ann where
  live := fun
    | 0 => [7]
    | _ => []
  wr := fun
    | 0 => fun i => Nat.beq i 4 || (Nat.ble 7 i && Nat.ble i 14)
    | _ => fun _ => false
  sched := fun _ => .done

set_option maxRecDepth 100000 in
theorem ok53 : (codeOk Try.f53.ntmps A53 (Try.f53.body.getD .skip) 0 && Nat.ble 1 Try.f53.ntmps) = true := by kernel_rfl
set_option maxRecDepth 100000 in
theorem lift53 {t0 : Value} {w : World} {R : Ending → World → Prop} (h : S53 t0 w R) : Calls Try.prog 53 #[t0] w R :=
  calls_of_cw (fn := Try.f53) (c := Try.f53.body.getD .skip) A53 mixes Try.func53 (by kernel_rfl) ok53
    ((by kernel_rfl : (S53 t0 w R) = cw Try.prog A53 (Try.f53.body.getD .skip) 0 (bodyQ Try.prog Try.f53 R) (frOf #[t0]) w).mp h)

def S54 (t0 : Value) (w : World) (R : Ending → World → Prop) : Prop :=
  boxW 80 (.agg #[(.int .i64 0), (.int .i64 0), (.int .i64 0), (.int .i64 0)]) w fun t2 w =>
  boxW 80 (.agg #[(.int .i64 0), (.int .i64 0), (.int .i64 0), (.int .i64 0)]) w fun t3 w =>
  slA 4 1 t3 none none fun t4 =>
  semW Try.prog (cpS [36, 36] 3 [t4, t0]) w fun t6 w =>
  ldN 4 w t3 fun t7 =>
  stW Try.prog 80 t2 t7 w fun w =>
  ldN 4 w t2 fun r =>
  R (.returned r) w

def A54 : Ann where
  live := fun _ => []
  wr := fun _ _ => false
  sched := fun _ => .done

set_option maxRecDepth 100000 in
theorem ok54 : (codeOk Try.f54.ntmps A54 (Try.f54.body.getD .skip) 0 && Nat.ble 1 Try.f54.ntmps) = true := by kernel_rfl
set_option maxRecDepth 100000 in
theorem lift54 {t0 : Value} {w : World} {R : Ending → World → Prop} (h : S54 t0 w R) : Calls Try.prog 54 #[t0] w R :=
  calls_of_cw (fn := Try.f54) (c := Try.f54.body.getD .skip) A54 mixes Try.func54 (by kernel_rfl) ok54
    ((by kernel_rfl : (S54 t0 w R) = cw Try.prog A54 (Try.f54.body.getD .skip) 0 (bodyQ Try.prog Try.f54 R) (frOf #[t0]) w).mp h)

def S55 (t0 t1 : Value) (w : World) (R : Ending → World → Prop) : Prop :=
  boxW 25 t0 w fun t2 w =>
  boxW 80 t1 w fun t3 w =>
  boxW 83 (.slice none 0 0) w fun t5 w =>
  boxW 80 (.agg #[(.int .i64 0), (.int .i64 0), (.int .i64 0), (.int .i64 0)]) w fun t6 w =>
  boxW 102 .nilFunc w fun t7 w =>
  stW Try.prog 102 t7 (.func (.func 84) #[] #[t2, t5, t6, t3, t7]) w fun w =>
  ld1 w t7 fun t9 =>
  callW Try.prog t9 [(.int .i64 0)] w fun t10 w =>
  ld1 w t5 fun t11 =>
  R (.returned t11) w

def A55 : Ann where
  live := fun _ => []
  wr := fun _ _ => false
  sched := fun _ => .done

set_option maxRecDepth 100000 in
theorem ok55 : (codeOk Try.f55.ntmps A55 (Try.f55.body.getD .skip) 0 && Nat.ble 2 Try.f55.ntmps) = true := by kernel_rfl
set_option maxRecDepth 100000 in
theorem lift55 {t0 t1 : Value} {w : World} {R : Ending → World → Prop} (h : S55 t0 t1 w R) : Calls Try.prog 55 #[t0, t1] w R :=
  calls_of_cw (fn := Try.f55) (c := Try.f55.body.getD .skip) A55 mixes Try.func55 (by kernel_rfl) ok55
    ((by kernel_rfl : (S55 t0 t1 w R) = cw Try.prog A55 (Try.f55.body.getD .skip) 0 (bodyQ Try.prog Try.f55 R) (frOf #[t0, t1]) w).mp h)

def S84 (t0 t1 t2 t3 t4 t5 : Value) (w : World) (R : Ending → World → Prop) : Prop :=
  fa1 t1 1 fun t9 =>
  ld1 w t9 fun t10 =>
  binQ Try.prog w .eql 3 false t0 t10 fun t11 =>
  condW t11 (
    ld1 w t2 fun t12 =>
    ldN 4 w t3 fun t13 =>
    bsW Try.prog 83 1 [(0, t13)] w fun t14 w =>
    semW Try.prog (apS [83, 83] 83 [t12, t14]) w fun t15 w =>
    stW Try.prog 83 t2 t15 w fun w =>
    R (.returned (.tuple #[])) w
  ) (
    iaA 4 1 t4 t0 fun t17 =>
    ld1 w t17 fun t18 =>
    binQ Try.prog w .gtr 3 true t0 (.int .i64 0) fun t20 =>
    Join (fun (k_2 : Value → World → Prop) =>
      condW t20 (
        binQ Try.prog w .sub 3 true t0 (.int .i64 1) fun t23 =>
        iaA 4 1 t3 t23 fun t24 =>
        ld1 w t24 fun t25 =>
        mnQ false [t18, t25] fun t26 =>
        k_2 t26 w
      ) (
        k_2 t18 w
      )
    ) fun t7 w =>
    iaA 4 1 t3 t0 fun t28_2 =>
    stW Try.prog 3 t28_2 (.int .i64 0) w fun w =>
    Loop0 w fun _ w next_2 =>
      iaA 4 1 t3 t0 fun t30_2 =>
      ld1 w t30_2 fun t31_2 =>
      binQ Try.prog w .leq 3 false t31_2 t7 fun t33_2 =>
      condW t33_2 (
        ld1 w t5 fun t39_2 =>
        binQ Try.prog w .add 3 true t0 (.int .i64 1) fun t41_2 =>
        callW Try.prog t39_2 [t41_2] w fun t42_2 w =>
        iaA 4 1 t3 t0 fun t35_2 =>
        ld1 w t35_2 fun t36_2 =>
        binQ Try.prog w .add 3 true t36_2 (.int .i64 1) fun t37_2 =>
        iaA 4 1 t3 t0 fun t38_2 =>
        stW Try.prog 3 t38_2 t37_2 w fun w =>
        next_2 w
      ) (
        iaA 4 1 t3 t0 fun t44_2 =>
        stW Try.prog 3 t44_2 (.int .i64 0) w fun w =>
        R (.returned (.tuple #[])) w
      )
  )

def A84 : Ann where
  live := fun
    | 0 => []
    | _ => []
  wr := fun
    | 0 => fun i => (Nat.ble 29 i && Nat.ble i 42)
    | _ => fun _ => false
  sched := fun _ => .done

set_option maxRecDepth 100000 in
theorem ok84 : (codeOk Try.f84.ntmps A84 (Try.f84.body.getD .skip) 0 && Nat.ble 6 Try.f84.ntmps) = true := by kernel_rfl
set_option maxRecDepth 100000 in
theorem lift84 {t0 t1 t2 t3 t4 t5 : Value} {w : World} {R : Ending → World → Prop} (h : S84 t0 t1 t2 t3 t4 t5 w R) : Calls Try.prog 84 #[t0, t1, t2, t3, t4, t5] w R :=
  calls_of_cw (fn := Try.f84) (c := Try.f84.body.getD .skip) A84 mixes Try.func84 (by kernel_rfl) ok84
    ((by kernel_rfl : (S84 t0 t1 t2 t3 t4 t5 w R) = cw Try.prog A84 (Try.f84.body.getD .skip) 0 (bodyQ Try.prog Try.f84 R) (frOf #[t0, t1, t2, t3, t4, t5]) w).mp h)

def S57 (t0 t1 : Value) (w : World) (R : Ending → World → Prop) : Prop :=
  boxW 77 t0 w fun t2 w =>
  boxW 88 t1 w fun t3 w =>
  fa1 t3 0 fun t10 =>
  ld1 w t10 fun t11 =>
  binQ Try.prog w .eql 3 true t11 (.int .i64 0) fun t12 =>
  condW t12 (
    R (.returned (.int .i64 1)) w
  ) (
    fa1 t2 3 fun t14 =>
    ld1 w t14 fun t15 =>
    ldN 5 w t3 fun t16 =>
    semW Try.prog (lkS 75 t15 t16 true) w fun t17 w =>
    exQ t17 0 fun t18 =>
    exQ t17 1 fun t19 =>
    condW t19 (
      R (.returned t18) w
    ) (
      fa1 t2 0 fun t22 =>
      ldN 3 w t22 fun t23 =>
      fa1 t3 1 fun t24 =>
      ldN 4 w t24 fun t25 =>
      callW Try.prog (.func (.func 55) #[] #[]) [t23, t25] w fun t26 w =>
      ln1 t26 fun t27 =>
      Loop2 (.int .i64 0) (.int .i64 0) w fun _ t7 t28 w next =>
        binQ Try.prog w .lss 3 false t28 t27 fun t29 =>
        condW t29 (
          iaS 4 t26 t28 fun t30 =>
          ldN 4 w t30 fun t31 =>
          boxW 80 (.agg #[(.int .i64 0), (.int .i64 0), (.int .i64 0), (.int .i64 0)]) w fun t9 w =>
          stW Try.prog 80 t9 t31 w fun w =>
          ldN 4 w t2 fun t33 =>
          fa1 t3 0 fun t34 =>
          ld1 w t34 fun t35 =>
          binQ Try.prog w .sub 3 true t35 (.int .i64 1) fun t36 =>
          ldN 4 w t9 fun t37 =>
          bdQ Try.prog 88 [(0, t36), (1, t37)] fun t38 =>
          callW Try.prog (.func (.func 57) #[] #[]) [t33, t38] w fun t39 w =>
          binQ Try.prog w .add 3 false t7 t39 fun t40 =>
          binQ Try.prog w .add 3 true t28 (.int .i64 1) fun t41 =>
          next t40 t41 w
        ) (
          fa1 t2 3 fun t42 =>
          ld1 w t42 fun t43 =>
          ldN 5 w t3 fun t44 =>
          semW Try.prog (muS 75 t43 t44 t7) w fun _ w =>
          R (.returned t7) w
        )
    )
  )

def A57 : Ann where
  live := fun
    | 0 => [7, 28]
    | _ => []
  wr := fun
    | 0 => fun i => Nat.beq i 7 || Nat.beq i 9 || (Nat.ble 28 i && Nat.ble i 41)
    | _ => fun _ => false
  sched := fun _ => .done

set_option maxRecDepth 100000 in
theorem ok57 : (codeOk Try.f57.ntmps A57 (Try.f57.body.getD .skip) 0 && Nat.ble 2 Try.f57.ntmps) = true := by kernel_rfl
set_option maxRecDepth 100000 in
theorem lift57 {t0 t1 : Value} {w : World} {R : Ending → World → Prop} (h : S57 t0 t1 w R) : Calls Try.prog 57 #[t0, t1] w R :=
  calls_of_cw (fn := Try.f57) (c := Try.f57.body.getD .skip) A57 mixes Try.func57 (by kernel_rfl) ok57
    ((by kernel_rfl : (S57 t0 t1 w R) = cw Try.prog A57 (Try.f57.body.getD .skip) 0 (bodyQ Try.prog Try.f57 R) (frOf #[t0, t1]) w).mp h)

def S60 (t0 t1 : Value) (w : World) (R : Ending → World → Prop) : Prop :=
  binQ Try.prog w .lss 3 true t1 (.int .i64 0) fun t8 =>
  gd t8 false (fun k => k t1 w) w fun t10 w =>
  gd t8 false (fun k => k t0 w) w fun t11 w =>
  gd t8 false (fun k => binQ Try.prog w .gtr 3 false t10 t11 fun v => k v w) w fun t12 w =>
  pickQ t8 (.bool true) t12 fun t13 =>
  condW t13 (
    R (.returned (.int .i64 0)) w
  ) (
    Loop2 (.int .i64 1) (.int .i64 0) w fun _ t5 t15 w next =>
      binQ Try.prog w .lss 3 false t15 t1 fun t16 =>
      condW t16 (
        binQ Try.prog w .sub 3 false t0 t15 fun t21 =>
        binQ Try.prog w .mul 3 false t5 t21 fun t22 =>
        binQ Try.prog w .add 3 true t15 (.int .i64 1) fun t24 =>
        binQ Try.prog w .quo 3 false t22 t24 fun t25 =>
        binQ Try.prog w .add 3 true t15 (.int .i64 1) fun t26 =>
        next t25 t26 w
      ) (
        R (.returned t5) w
      )
  )

def A60 : Ann where
  live := fun
    | 0 => [5, 15]
    | _ => []
  wr := fun
    | 0 => fun i => (Nat.ble 5 i && Nat.ble i 6) || (Nat.ble 15 i && Nat.ble i 26)
    | _ => fun _ => false
  sched := fun _ => .done

set_option maxRecDepth 100000 in
theorem ok60 : (codeOk Try.f60.ntmps A60 (Try.f60.body.getD .skip) 0 && Nat.ble 2 Try.f60.ntmps) = true := by kernel_rfl
set_option maxRecDepth 100000 in
theorem lift60 {t0 t1 : Value} {w : World} {R : Ending → World → Prop} (h : S60 t0 t1 w R) : Calls Try.prog 60 #[t0, t1] w R :=
  calls_of_cw (fn := Try.f60) (c := Try.f60.body.getD .skip) A60 mixes Try.func60 (by kernel_rfl) ok60
    ((by kernel_rfl : (S60 t0 t1 w R) = cw Try.prog A60 (Try.f60.body.getD .skip) 0 (bodyQ Try.prog Try.f60 R) (frOf #[t0, t1]) w).mp h)

def S61 (t0 : Value) (w : World) (R : Ending → World → Prop) : Prop :=
  ln1 t0 fun t11 =>
  binQ Try.prog w .eql 3 true t11 (.int .i64 0) fun t12 =>
  condW t12 (
    R (.returned (.int .i64 1)) w
  ) (
    iaS 1 t0 (.int .i64 0) fun t14 =>
    ld1 w t14 fun t15 =>
    ln1 t15 fun t16 =>
    Loop3 (.int .i64 0) (.int .i64 1) (.int .i64 0) w fun _ t3 t4 t17 w next =>
      binQ Try.prog w .lss 3 false t17 t16 fun t18 =>
      condW t18 (
        iaS 1 t15 t17 fun t20 =>
        ld1 w t20 fun t21 =>
        slS 1 t0 (some (.int .i64 1)) none fun t23 =>
        ln1 t23 fun t24 =>
        Loop2 (.slice none 0 0) (.int .i64 0) w fun _ t7 t25 w next_2 =>
          binQ Try.prog w .lss 3 false t25 t24 fun t26 =>
          condW t26 (
            iaS 1 t23 t25 fun t27 =>
            ld1 w t27 fun t28 =>
            Drew w fun w =>
            slS 1 t28 none (some t17) fun t32 =>
            binQ Try.prog w .add 3 true t17 (.int .i64 1) fun t35 =>
            slS 1 t28 (some t35) none fun t36 =>
            bsW Try.prog 26 2 [(0, t32), (1, t36)] w <| keepB w fun t37 w =>
            callW Try.prog (.func (.func 85) #[] #[]) [t37] w <| keepB w fun t38 w =>
            bsW Try.prog 26 1 [(0, t38)] w <| keepB w fun t39 w =>
            semW Try.prog (apS [26, 26] 26 [t7, t39]) w fun t40 w =>
            binQ Try.prog w .add 3 true t25 (.int .i64 1) fun t41 =>
            next_2 t40 t41 w
          ) (
            binQ Try.prog w .mul 3 false t4 t21 fun t45 =>
            callW Try.prog (.func (.func 61) #[] #[]) [t7] w fun t47 w =>
            binQ Try.prog w .mul 3 false t45 t47 fun t48 =>
            binQ Try.prog w .add 3 false t3 t48 fun t49 =>
            unQ .neg t4 fun t51 =>
            binQ Try.prog w .add 3 true t17 (.int .i64 1) fun t52 =>
            next t49 t51 t52 w
          )
      ) (
        R (.returned t3) w
      )
  )

def A61 : Ann where
  live := fun
    | 0 => [3, 4, 17]
    | 2 => [7, 25]
    | _ => []
  wr := fun
    | 0 => fun i => (Nat.ble 3 i && Nat.ble i 7) || Nat.beq i 9 || (Nat.ble 17 i && Nat.ble i 52)
    | 2 => fun i => Nat.beq i 7 || Nat.beq i 9 || (Nat.ble 25 i && Nat.ble i 41)
    | _ => fun _ => false
  sched := fun
    | 11 => (.take 0 (.take 1 (.take 2 (.take 3 (.take 4 (.take 5 (.take 6 (.take 7 (.eff 8 (.eff 9 (.eff 10 (.bar 11 (.take 12 .done)))))))))))))
    | _ => .done

set_option maxRecDepth 100000 in
theorem ok61 : (codeOk Try.f61.ntmps A61 (Try.f61.body.getD .skip) 0 && Nat.ble 1 Try.f61.ntmps) = true := by kernel_rfl
set_option maxRecDepth 100000 in
theorem lift61 {t0 : Value} {w : World} {R : Ending → World → Prop} (h : S61 t0 w R) : Calls Try.prog 61 #[t0] w R :=
  calls_of_cw (fn := Try.f61) (c := Try.f61.body.getD .skip) A61 mixes Try.func61 (by kernel_rfl) ok61
    ((by kernel_rfl : (S61 t0 w R) = cw Try.prog A61 (Try.f61.body.getD .skip) 0 (bodyQ Try.prog Try.f61 R) (frOf #[t0]) w).mp h)

def S85 (t0 : Value) (w : World) (R : Ending → World → Prop) : Prop :=
  ln1 t0 fun t10 =>
  Loop2 (.int .i64 0) (.int .i64 0) w fun _ t3 t11 w next =>
    binQ Try.prog w .lss 3 false t11 t10 fun t12 =>
    condW t12 (
      iaS 1 t0 t11 fun t13 =>
      ld1 w t13 fun t14 =>
      ln1 t14 fun t17 =>
      binQ Try.prog w .add 3 false t3 t17 fun t18 =>
      binQ Try.prog w .lss 3 true t18 (.int .i64 0) fun t20 =>
      Join (fun (k_2 : World → Prop) =>
        condW t20 (
          False
        ) (
          k_2 w
        )
      ) fun w =>
      binQ Try.prog w .add 3 true t11 (.int .i64 1) fun t22_2 =>
      next t18 t22_2 w
    ) (
      callW Try.prog (.func (.func 95) #[] #[]) [(.slice none 0 0), t3] w fun t24 w =>
      ln1 t0 fun t26 =>
      Loop2 t24 (.int .i64 0) w fun _ t6 t27 w next_2 =>
        binQ Try.prog w .lss 3 false t27 t26 fun t28 =>
        condW t28 (
          iaS 1 t0 t27 fun t29 =>
          ld1 w t29 fun t30 =>
          semW Try.prog (apS [36, 36] 36 [t6, t30]) w fun t33 w =>
          binQ Try.prog w .add 3 true t27 (.int .i64 1) fun t34 =>
          next_2 t33 t34 w
        ) (
          R (.returned t6) w
        )
    )

def A85 : Ann where
  live := fun
    | 0 => [3, 11]
    | 2 => [6, 27]
    | _ => []
  wr := fun
    | 0 => fun i => Nat.beq i 3 || Nat.beq i 5 || (Nat.ble 11 i && Nat.ble i 22)
    | 2 => fun i => Nat.beq i 6 || Nat.beq i 8 || (Nat.ble 27 i && Nat.ble i 34)
    | _ => fun _ => false
  sched := fun _ => .done

set_option maxRecDepth 100000 in
theorem ok85 : (codeOk Try.f85.ntmps A85 (Try.f85.body.getD .skip) 0 && Nat.ble 1 Try.f85.ntmps) = true := by kernel_rfl
set_option maxRecDepth 100000 in
theorem lift85 {t0 : Value} {w : World} {R : Ending → World → Prop} (h : S85 t0 w R) : Calls Try.prog 85 #[t0] w R :=
  calls_of_cw (fn := Try.f85) (c := Try.f85.body.getD .skip) A85 mixes Try.func85 (by kernel_rfl) ok85
    ((by kernel_rfl : (S85 t0 w R) = cw Try.prog A85 (Try.f85.body.getD .skip) 0 (bodyQ Try.prog Try.f85 R) (frOf #[t0]) w).mp h)

def S95 (t0 t1 : Value) (w : World) (R : Ending → World → Prop) : Prop :=
  binQ Try.prog w .lss 3 true t1 (.int .i64 0) fun t6 =>
  Join (fun (k_2 : World → Prop) =>
    condW t6 (
      False
    ) (
      k_2 w
    )
  ) fun w =>
  semW Try.prog (caS [36] 3 [t0]) w fun t10_2 w =>
  ln1 t0 fun t12_2 =>
  binQ Try.prog w .sub 3 false t10_2 t12_2 fun t13_2 =>
  binQ Try.prog w .sub 3 false t1 t13_2 fun t14_2 =>
  binQ Try.prog w .gtr 3 true t14_2 (.int .i64 0) fun t16_2 =>
  condW t16_2 (
    semW Try.prog (caS [36] 3 [t0]) w fun t19_2 w =>
    slS 1 t0 none (some t19_2) fun t20_2 =>
    semW Try.prog (apS [36, 3] 36 [t20_2, t14_2]) w fun t22_2 w =>
    ln1 t0 fun t24_2 =>
    slS 1 t22_2 none (some t24_2) fun t25_2 =>
    R (.returned t25_2) w
  ) (
    R (.returned t0) w
  )

def A95 : Ann where
  live := fun _ => []
  wr := fun _ _ => false
  sched := fun _ => .done

set_option maxRecDepth 100000 in
theorem ok95 : (codeOk Try.f95.ntmps A95 (Try.f95.body.getD .skip) 0 && Nat.ble 2 Try.f95.ntmps) = true := by kernel_rfl
set_option maxRecDepth 100000 in
theorem lift95 {t0 t1 : Value} {w : World} {R : Ending → World → Prop} (h : S95 t0 t1 w R) : Calls Try.prog 95 #[t0, t1] w R :=
  calls_of_cw (fn := Try.f95) (c := Try.f95.body.getD .skip) A95 mixes Try.func95 (by kernel_rfl) ok95
    ((by kernel_rfl : (S95 t0 t1 w R) = cw Try.prog A95 (Try.f95.body.getD .skip) 0 (bodyQ Try.prog Try.f95 R) (frOf #[t0, t1]) w).mp h)

def S21 (t0 : Value) (w : World) (R : Ending → World → Prop) : Prop :=
  boxW 25 t0 w fun t1 w =>
  ldN 3 w t1 fun t4 =>
  callW Try.prog (.func (.func 58) #[] #[]) [t4] w fun t5 w =>
  unQ .not t5 fun t6 =>
  condW t6 (
    R (.returned (.tuple #[(.int .i64 0), (.int .i64 2)])) w
  ) (
    Drew w fun w =>
    ldN 3 w t1 fun t7 =>
    fa1 t1 0 fun t9 =>
    ld1 w t9 fun t10 =>
    ldN 3 w t1 fun t11 =>
    callW Try.prog (.func (.func 52) #[] #[]) [t7] w <| keepB w fun t8 w =>
    callW Try.prog (.func (.func 53) #[] #[]) [t11] w <| keepB w fun t12 w =>
    bdQ Try.prog 88 [(0, t10), (1, t12)] fun t13 =>
    callW Try.prog (.func (.func 57) #[] #[]) [t8, t13] w fun t14 w =>
    R (.returned (.tuple #[t14, (.int .i64 0)])) w
  )

def A21 : Ann where
  live := fun _ => []
  wr := fun _ _ => false
  sched := fun
    | 3 => (.take 0 (.take 2 (.take 3 (.take 4 (.eff 1 (.eff 5 (.take 6 (.bar 7 (.take 8 (.take 9 .done))))))))))
    | _ => .done

set_option maxRecDepth 100000 in
theorem ok21 : (codeOk Try.f21.ntmps A21 (Try.f21.body.getD .skip) 0 && Nat.ble 1 Try.f21.ntmps) = true := by kernel_rfl
set_option maxRecDepth 100000 in
theorem lift21 {t0 : Value} {w : World} {R : Ending → World → Prop} (h : S21 t0 w R) : Calls Try.prog 21 #[t0] w R :=
  calls_of_cw (fn := Try.f21) (c := Try.f21.body.getD .skip) A21 mixes Try.func21 (by kernel_rfl) ok21
    ((by kernel_rfl : (S21 t0 w R) = cw Try.prog A21 (Try.f21.body.getD .skip) 0 (bodyQ Try.prog Try.f21 R) (frOf #[t0]) w).mp h)

def S25 (t0 : Value) (w : World) (R : Ending → World → Prop) : Prop :=
  boxW 25 t0 w fun t1 w =>
  ldN 3 w t1 fun t8 =>
  callW Try.prog (.func (.func 58) #[] #[]) [t8] w fun t9 w =>
  unQ .not t9 fun t10 =>
  condW t10 (
    R (.returned (.tuple #[(.int .i64 0), (.int .i64 2)])) w
  ) (
    fa1 t1 0 fun t11 =>
    ld1 w t11 fun t12 =>
    Loop2 (.slice none 0 0) (.int .i64 0) w fun _ t4 t13 w next =>
      binQ Try.prog w .lss 3 false t13 t12 fun t14 =>
      condW t14 (
        fa1 t1 0 fun t16 =>
        ld1 w t16 fun t17 =>
        Loop2 (.slice none 0 0) (.int .i64 0) w fun _ t6 t18 w next_2 =>
          binQ Try.prog w .lss 3 false t18 t17 fun t19 =>
          condW t19 (
            fa1 t1 1 fun t22 =>
            ld1 w t22 fun t23 =>
            fa1 t1 2 fun t24 =>
            ld1 w t24 fun t25 =>
            binQ Try.prog w .add 3 false t23 t25 fun t26 =>
            fa1 t1 1 fun t27 =>
            ld1 w t27 fun t28 =>
            binQ Try.prog w .sub 3 false t28 t13 fun t30 =>
            binQ Try.prog w .add 3 false t30 t18 fun t32 =>
            callW Try.prog (.func (.func 60) #[] #[]) [t26, t32] w fun t33 w =>
            bsW Try.prog 36 1 [(0, t33)] w fun t34 w =>
            semW Try.prog (apS [36, 36] 36 [t6, t34]) w fun t35 w =>
            binQ Try.prog w .add 3 true t18 (.int .i64 1) fun t36 =>
            next_2 t35 t36 w
          ) (
            bsW Try.prog 26 1 [(0, t6)] w fun t39 w =>
            semW Try.prog (apS [26, 26] 26 [t4, t39]) w fun t40 w =>
            binQ Try.prog w .add 3 true t13 (.int .i64 1) fun t41 =>
            next t40 t41 w
          )
      ) (
        callW Try.prog (.func (.func 61) #[] #[]) [t4] w fun t43 w =>
        R (.returned (.tuple #[t43, (.int .i64 0)])) w
      )
  )

def A25 : Ann where
  live := fun
    | 0 => [4, 13]
    | 2 => [6, 18]
    | _ => []
  wr := fun
    | 0 => fun i => (Nat.ble 4 i && Nat.ble i 7) || (Nat.ble 13 i && Nat.ble i 41)
    | 2 => fun i => (Nat.ble 6 i && Nat.ble i 7) || (Nat.ble 18 i && Nat.ble i 36)
    | _ => fun _ => false
  sched := fun _ => .done

set_option maxRecDepth 100000 in
theorem ok25 : (codeOk Try.f25.ntmps A25 (Try.f25.body.getD .skip) 0 && Nat.ble 1 Try.f25.ntmps) = true := by kernel_rfl
set_option maxRecDepth 100000 in
theorem lift25 {t0 : Value} {w : World} {R : Ending → World → Prop} (h : S25 t0 w R) : Calls Try.prog 25 #[t0] w R :=
  calls_of_cw (fn := Try.f25) (c := Try.f25.body.getD .skip) A25 mixes Try.func25 (by kernel_rfl) ok25
    ((by kernel_rfl : (S25 t0 w R) = cw Try.prog A25 (Try.f25.body.getD .skip) 0 (bodyQ Try.prog Try.f25 R) (frOf #[t0]) w).mp h)

def S18 (t0 t1 : Value) (w : World) (R : Ending → World → Prop) : Prop :=
  boxW 25 t0 w fun t2 w =>
  ldN 3 w t2 fun t15 =>
  callW Try.prog (.func (.func 47) #[] #[]) [t15, t1] w fun t17 w =>
  binQ Try.prog w .neq 31 true t17 (.int .i64 0) fun t19 =>
  condW t19 (
    R (.returned (.tuple #[(.int .i64 0), t17])) w
  ) (
    Drew w fun w =>
    Join (fun (k_2 : Value → Value → Value → World → Prop) =>
      ldN 3 w t2 fun t21 =>
      ldN 3 w t2 fun t23 =>
      And (
        callW Try.prog (.func (.func 52) #[] #[]) [t21] w <| keepB w fun t22 w =>
        And (
          callW Try.prog (.func (.func 53) #[] #[]) [t23] w <| keepB w fun t24 w =>
          And (
            boxW 77 (.agg #[(.int .i64 0), (.int .i64 0), (.int .i64 0), (.map none)]) w <| keepB w fun t7_2 w =>
            boxW 80 (.agg #[(.int .i64 0), (.int .i64 0), (.int .i64 0), (.int .i64 0)]) w <| keepB w fun t9_2 w =>
            stW Try.prog 77 t7_2 t22 w fun w =>
            stW Try.prog 80 t9_2 t24 w fun w =>
            k_2 t7_2 (.int .i64 0) t9_2 w
          ) <|
          And (
            boxW 80 (.agg #[(.int .i64 0), (.int .i64 0), (.int .i64 0), (.int .i64 0)]) w <| keepB w fun t9_3 w =>
            boxW 77 (.agg #[(.int .i64 0), (.int .i64 0), (.int .i64 0), (.map none)]) w <| keepB w fun t7_3 w =>
            stW Try.prog 77 t7_3 t22 w fun w =>
            stW Try.prog 80 t9_3 t24 w fun w =>
            k_2 t7_3 (.int .i64 0) t9_3 w
          ) <|
          True
        ) <|
        And (
          boxW 77 (.agg #[(.int .i64 0), (.int .i64 0), (.int .i64 0), (.map none)]) w <| keepB w fun t7_4 w =>
          And (
            callW Try.prog (.func (.func 53) #[] #[]) [t23] w <| keepB w fun t24_2 w =>
            boxW 80 (.agg #[(.int .i64 0), (.int .i64 0), (.int .i64 0), (.int .i64 0)]) w <| keepB w fun t9_4 w =>
            stW Try.prog 77 t7_4 t22 w fun w =>
            stW Try.prog 80 t9_4 t24_2 w fun w =>
            k_2 t7_4 (.int .i64 0) t9_4 w
          ) <|
          And (
            boxW 80 (.agg #[(.int .i64 0), (.int .i64 0), (.int .i64 0), (.int .i64 0)]) w <| keepB w fun t9_5 w =>
            callW Try.prog (.func (.func 53) #[] #[]) [t23] w <| keepB w fun t24_3 w =>
            stW Try.prog 77 t7_4 t22 w fun w =>
            stW Try.prog 80 t9_5 t24_3 w fun w =>
            k_2 t7_4 (.int .i64 0) t9_5 w
          ) <|
          True
        ) <|
        And (
          boxW 80 (.agg #[(.int .i64 0), (.int .i64 0), (.int .i64 0), (.int .i64 0)]) w <| keepB w fun t9_6 w =>
          And (
            callW Try.prog (.func (.func 53) #[] #[]) [t23] w <| keepB w fun t24_4 w =>
            boxW 77 (.agg #[(.int .i64 0), (.int .i64 0), (.int .i64 0), (.map none)]) w <| keepB w fun t7_5 w =>
            stW Try.prog 77 t7_5 t22 w fun w =>
            stW Try.prog 80 t9_6 t24_4 w fun w =>
            k_2 t7_5 (.int .i64 0) t9_6 w
          ) <|
          And (
            boxW 77 (.agg #[(.int .i64 0), (.int .i64 0), (.int .i64 0), (.map none)]) w <| keepB w fun t7_6 w =>
            callW Try.prog (.func (.func 53) #[] #[]) [t23] w <| keepB w fun t24_5 w =>
            stW Try.prog 77 t7_6 t22 w fun w =>
            stW Try.prog 80 t9_6 t24_5 w fun w =>
            k_2 t7_6 (.int .i64 0) t9_6 w
          ) <|
          True
        ) <|
        True
      ) <|
      And (
        boxW 77 (.agg #[(.int .i64 0), (.int .i64 0), (.int .i64 0), (.map none)]) w <| keepB w fun t7_7 w =>
        And (
          callW Try.prog (.func (.func 52) #[] #[]) [t21] w <| keepB w fun t22_2 w =>
          And (
            callW Try.prog (.func (.func 53) #[] #[]) [t23] w <| keepB w fun t24_6 w =>
            boxW 80 (.agg #[(.int .i64 0), (.int .i64 0), (.int .i64 0), (.int .i64 0)]) w <| keepB w fun t9_7 w =>
            stW Try.prog 77 t7_7 t22_2 w fun w =>
            stW Try.prog 80 t9_7 t24_6 w fun w =>
            k_2 t7_7 (.int .i64 0) t9_7 w
          ) <|
          And (
            boxW 80 (.agg #[(.int .i64 0), (.int .i64 0), (.int .i64 0), (.int .i64 0)]) w <| keepB w fun t9_8 w =>
            callW Try.prog (.func (.func 53) #[] #[]) [t23] w <| keepB w fun t24_7 w =>
            stW Try.prog 77 t7_7 t22_2 w fun w =>
            stW Try.prog 80 t9_8 t24_7 w fun w =>
            k_2 t7_7 (.int .i64 0) t9_8 w
          ) <|
          True
        ) <|
        And (
          boxW 80 (.agg #[(.int .i64 0), (.int .i64 0), (.int .i64 0), (.int .i64 0)]) w <| keepB w fun t9_9 w =>
          callW Try.prog (.func (.func 52) #[] #[]) [t21] w <| keepB w fun t22_3 w =>
          callW Try.prog (.func (.func 53) #[] #[]) [t23] w <| keepB w fun t24_8 w =>
          stW Try.prog 77 t7_7 t22_3 w fun w =>
          stW Try.prog 80 t9_9 t24_8 w fun w =>
          k_2 t7_7 (.int .i64 0) t9_9 w
        ) <|
        True
      ) <|
      And (
        boxW 80 (.agg #[(.int .i64 0), (.int .i64 0), (.int .i64 0), (.int .i64 0)]) w <| keepB w fun t9_10 w =>
        And (
          callW Try.prog (.func (.func 52) #[] #[]) [t21] w <| keepB w fun t22_4 w =>
          And (
            callW Try.prog (.func (.func 53) #[] #[]) [t23] w <| keepB w fun t24_9 w =>
            boxW 77 (.agg #[(.int .i64 0), (.int .i64 0), (.int .i64 0), (.map none)]) w <| keepB w fun t7_8 w =>
            stW Try.prog 77 t7_8 t22_4 w fun w =>
            stW Try.prog 80 t9_10 t24_9 w fun w =>
            k_2 t7_8 (.int .i64 0) t9_10 w
          ) <|
          And (
            boxW 77 (.agg #[(.int .i64 0), (.int .i64 0), (.int .i64 0), (.map none)]) w <| keepB w fun t7_9 w =>
            callW Try.prog (.func (.func 53) #[] #[]) [t23] w <| keepB w fun t24_10 w =>
            stW Try.prog 77 t7_9 t22_4 w fun w =>
            stW Try.prog 80 t9_10 t24_10 w fun w =>
            k_2 t7_9 (.int .i64 0) t9_10 w
          ) <|
          True
        ) <|
        And (
          boxW 77 (.agg #[(.int .i64 0), (.int .i64 0), (.int .i64 0), (.map none)]) w <| keepB w fun t7_10 w =>
          callW Try.prog (.func (.func 52) #[] #[]) [t21] w <| keepB w fun t22_5 w =>
          callW Try.prog (.func (.func 53) #[] #[]) [t23] w <| keepB w fun t24_11 w =>
          stW Try.prog 77 t7_10 t22_5 w fun w =>
          stW Try.prog 80 t9_10 t24_11 w fun w =>
          k_2 t7_10 (.int .i64 0) t9_10 w
        ) <|
        True
      ) <|
      True
    ) fun t7 t8 t9 w =>
    ln1 t1 fun t26 =>
    Loop2 t8 (.int .i64 0) w fun _ t8_2 t27 w next =>
      binQ Try.prog w .lss 3 false t27 t26 fun t28 =>
      condW t28 (
        iaS 1 t1 t27 fun t30 =>
        ld1 w t30 fun t31 =>
        callW Try.prog (.func (.func 54) #[] #[]) [t31] w fun t33 w =>
        boxW 80 (.agg #[(.int .i64 0), (.int .i64 0), (.int .i64 0), (.int .i64 0)]) w fun t12 w =>
        stW Try.prog 80 t12 t33 w fun w =>
        ldN 3 w t2 fun t34 =>
        ldN 4 w t9 fun t35 =>
        callW Try.prog (.func (.func 55) #[] #[]) [t34, t35] w fun t36 w =>
        ln1 t36 fun t37 =>
        Loop2 t8_2 (.int .i64 0) w fun _ t8_3 t38 w next_2 =>
          binQ Try.prog w .lss 3 false t38 t37 fun t39 =>
          condW t39 (
            iaS 4 t36 t38 fun t40 =>
            ldN 4 w t40 fun t41 =>
            boxW 80 (.agg #[(.int .i64 0), (.int .i64 0), (.int .i64 0), (.int .i64 0)]) w fun t14 w =>
            stW Try.prog 80 t14 t41 w fun w =>
            Drew w fun w =>
            slA 4 1 t14 none none fun t42 =>
            slA 4 1 t12 none none fun t43 =>
            callW Try.prog (.func (.func 56) #[] #[]) [t42, t43] w fun t44 w =>
            binQ Try.prog w .lss 3 true t44 (.int .i64 0) fun t45 =>
            Join (fun (k_3 : Value → World → Prop) =>
              condW t45 (
                ldN 4 w t7 fun t47 =>
                fa1 t2 0 fun t48 =>
                ld1 w t48 fun t49 =>
                binQ Try.prog w .sub 3 true t49 (.int .i64 1) fun t50 =>
                binQ Try.prog w .sub 3 false t50 t27 fun t52 =>
                ldN 4 w t14 fun t53 =>
                bdQ Try.prog 88 [(0, t52), (1, t53)] fun t54 =>
                callW Try.prog (.func (.func 57) #[] #[]) [t47, t54] w fun t55 w =>
                binQ Try.prog w .add 3 false t8_3 t55 fun t56 =>
                k_3 t56 w
              ) (
                k_3 t8_3 w
              )
            ) fun t8_4 w =>
            binQ Try.prog w .add 3 true t38 (.int .i64 1) fun t57_2 =>
            next_2 t8_4 t57_2 w
          ) (
            ldN 4 w t12 fun t58 =>
            stW Try.prog 80 t9 t58 w fun w =>
            binQ Try.prog w .add 3 true t27 (.int .i64 1) fun t59 =>
            next t8_3 t59 w
          )
      ) (
        R (.returned (.tuple #[t8_2, (.int .i64 0)])) w
      )
  )

def A18 : Ann where
  live := fun
    | 0 => [8, 27]
    | 2 => [8, 38]
    | _ => []
  wr := fun
    | 0 => fun i => Nat.beq i 8 || (Nat.ble 10 i && Nat.ble i 12) || Nat.beq i 14 || (Nat.ble 27 i && Nat.ble i 59)
    | 2 => fun i => Nat.beq i 8 || Nat.beq i 14 || (Nat.ble 38 i && Nat.ble i 57)
    | _ => fun _ => false
  sched := fun
    | 4 => (.take 0 (.take 2 (.alt 1 (.alt 3 (.alt 4 (.eff 5 (.bar 6 (.take 7 (.bar 8 .done)))) (.alt 5 (.eff 4 (.bar 6 (.take 7 (.bar 8 .done)))) .nomore)) (.alt 4 (.alt 3 (.eff 5 (.bar 6 (.take 7 (.bar 8 .done)))) (.alt 5 (.eff 3 (.bar 6 (.take 7 (.bar 8 .done)))) .nomore)) (.alt 5 (.alt 3 (.eff 4 (.bar 6 (.take 7 (.bar 8 .done)))) (.alt 4 (.eff 3 (.bar 6 (.take 7 (.bar 8 .done)))) .nomore)) .nomore))) (.alt 4 (.alt 1 (.alt 3 (.eff 5 (.bar 6 (.take 7 (.bar 8 .done)))) (.alt 5 (.eff 3 (.bar 6 (.take 7 (.bar 8 .done)))) .nomore)) (.alt 5 (.eff 1 (.eff 3 (.bar 6 (.take 7 (.bar 8 .done))))) .nomore)) (.alt 5 (.alt 1 (.alt 3 (.eff 4 (.bar 6 (.take 7 (.bar 8 .done)))) (.alt 4 (.eff 3 (.bar 6 (.take 7 (.bar 8 .done)))) .nomore)) (.alt 4 (.eff 1 (.eff 3 (.bar 6 (.take 7 (.bar 8 .done))))) .nomore)) .nomore)))))
    | 12 => (.take 0 (.take 1 (.bar 2 (.take 3 .done))))
    | _ => .done

set_option maxRecDepth 100000 in
theorem ok18 : (codeOk Try.f18.ntmps A18 (Try.f18.body.getD .skip) 0 && Nat.ble 2 Try.f18.ntmps) = true := by kernel_rfl
set_option maxRecDepth 100000 in
theorem lift18 {t0 t1 : Value} {w : World} {R : Ending → World → Prop} (h : S18 t0 t1 w R) : Calls Try.prog 18 #[t0, t1] w R :=
  calls_of_cw (fn := Try.f18) (c := Try.f18.body.getD .skip) A18 mixes Try.func18 (by kernel_rfl) ok18
    ((by kernel_rfl : (S18 t0 t1 w R) = cw Try.prog A18 (Try.f18.body.getD .skip) 0 (bodyQ Try.prog Try.f18 R) (frOf #[t0, t1]) w).mp h)

def S17 (w : World) (R : Ending → World → Prop) : Prop :=
  bdQ Try.prog 25 [(0, (.int .i64 2)), (1, (.int .i64 2)), (2, (.int .i64 2))] fun t8 =>
  boxW 25 (.agg #[(.int .i64 0), (.int .i64 0), (.int .i64 0)]) w fun t1 w =>
  stW Try.prog 25 t1 t8 w fun w =>
  ldN 3 w t1 fun t10 =>
  callW Try.prog (.func (.func 21) #[] #[]) [t10] w fun t11 w =>
  exQ t11 0 fun t12 =>
  exQ t11 1 fun t13 =>
  ldN 3 w t1 fun t15 =>
  callW Try.prog (.func (.func 25) #[] #[]) [t15] w fun t16 w =>
  exQ t16 0 fun t17 =>
  exQ t16 1 fun t18 =>
  ldN 3 w t1 fun t20 =>
  bsW Try.prog 36 2 [(0, (.int .i64 2)), (1, (.int .i64 1))] w fun t21 w =>
  bsW Try.prog 36 2 [(0, (.int .i64 1)), (1, (.int .i64 0))] w fun t22 w =>
  bsW Try.prog 26 2 [(0, t21), (1, t22)] w fun t23 w =>
  callW Try.prog (.func (.func 18) #[] #[]) [t20, t23] w fun t24 w =>
  exQ t24 0 fun t25 =>
  exQ t24 1 fun t26 =>
  binQ Try.prog w .eql 31 true t13 (.int .i64 0) fun t28 =>
  gd t28 true (fun k => k t12 w) w fun t30 w =>
  gd t28 true (fun k => binQ Try.prog w .eql 3 true t30 (.int .i64 20) fun v => k v w) w fun t31 w =>
  pickQ t28 t31 (.bool false) fun t32 =>
  gd t32 true (fun k => k t18 w) w fun t34 w =>
  gd t32 true (fun k => binQ Try.prog w .eql 31 true t34 (.int .i64 0) fun v => k v w) w fun t35 w =>
  pickQ t32 t35 (.bool false) fun t36 =>
  gd t36 true (fun k => k t17 w) w fun t38 w =>
  gd t36 true (fun k => binQ Try.prog w .eql 3 true t38 (.int .i64 20) fun v => k v w) w fun t39 w =>
  pickQ t36 t39 (.bool false) fun t40 =>
  gd t40 true (fun k => k t26 w) w fun t42 w =>
  gd t40 true (fun k => binQ Try.prog w .eql 31 true t42 (.int .i64 0) fun v => k v w) w fun t43 w =>
  pickQ t40 t43 (.bool false) fun t44 =>
  gd t44 true (fun k => k t25 w) w fun t46 w =>
  gd t44 true (fun k => binQ Try.prog w .eql 3 true t46 (.int .i64 10) fun v => k v w) w fun t47 w =>
  pickQ t44 t47 (.bool false) fun t48 =>
  R (.returned t48) w

def A17 : Ann where
  live := fun _ => []
  wr := fun _ _ => false
  sched := fun _ => .done

set_option maxRecDepth 100000 in
theorem ok17 : (codeOk Try.f17.ntmps A17 (Try.f17.body.getD .skip) 0 && Nat.ble 0 Try.f17.ntmps) = true := by kernel_rfl
set_option maxRecDepth 100000 in
theorem lift17 {w : World} {R : Ending → World → Prop} (h : S17 w R) : Calls Try.prog 17 #[] w R :=
  calls_of_cw (fn := Try.f17) (c := Try.f17.body.getD .skip) A17 mixes Try.func17 (by kernel_rfl) ok17
    ((by kernel_rfl : (S17 w R) = cw Try.prog A17 (Try.f17.body.getD .skip) 0 (bodyQ Try.prog Try.f17 R) (frOf #[]) w).mp h)

theorem fok93 : fnOk Try.prog 93 = true := by kernel_rfl
theorem fok81 : fnOk Try.prog 81 = true := by kernel_rfl
theorem fok56 : fnOk Try.prog 56 = true := by kernel_rfl
theorem fok52 : fnOk Try.prog 52 = true := by kernel_rfl
theorem fok53 : fnOk Try.prog 53 = true := by kernel_rfl
theorem fok54 : fnOk Try.prog 54 = true := by kernel_rfl
theorem fok55 : fnOk Try.prog 55 = true := by kernel_rfl
theorem fok84 : fnOk Try.prog 84 = true := by kernel_rfl
theorem fok57 : fnOk Try.prog 57 = true := by kernel_rfl
theorem fok60 : fnOk Try.prog 60 = true := by kernel_rfl
theorem fok61 : fnOk Try.prog 61 = true := by kernel_rfl
theorem fok85 : fnOk Try.prog 85 = true := by kernel_rfl
theorem fok95 : fnOk Try.prog 95 = true := by kernel_rfl
theorem fok21 : fnOk Try.prog 21 = true := by kernel_rfl
theorem fok25 : fnOk Try.prog 25 = true := by kernel_rfl
theorem fok18 : fnOk Try.prog 18 = true := by kernel_rfl
theorem fok17 : fnOk Try.prog 17 = true := by kernel_rfl
end Go.Proofs.Ytaephdjmpmbfpaa
