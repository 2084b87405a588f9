/- Lifted texts, printed by program (gen.py): what each function's code asks. The ties are by the kernel. -/
import Derived.Test.YtkdcldbedbagjaaDoorBase
set_option linter.all false
namespace Go.Proofs.YtkdcldbedbagjaaDoor
open Go.Lf Go.RowKit

def S35L0 (t0 t1 : Value) (R : Ending → World → Prop) (w : World) : Prop :=
  Loop5 t0 t1 (.slice none 0 0) (.int .i64 0) (.int .i64 0) w fun _ t0_2 t1_2 t6 t7 t8 w next =>
    binQ Tryd.prog w .gtr 3 true t0_2 (.int .i64 0) fun t15 =>
    gd t15 true (fun k => k t1_2 w) w fun t17 w =>
    gd t15 true (fun k => binQ Tryd.prog w .gtr 3 true t17 (.int .i64 0) fun v => k v w) w fun t18 w =>
    pickQ t15 t18 (.bool false) fun t19 =>
    condW t19 (
      ln1 t6 fun t21 =>
      binQ Tryd.prog w .eql 3 true t21 (.int .i64 16) fun t22 =>
      condW t22 (
        R (.returned (.tuple #[(.slice none 0 0), (.int .i64 8)])) w
      ) (
        mnQ false [t0_2, t1_2] fun t25 =>
        bdQ Tryd.prog 44 [(0, t7), (1, t8), (2, t25)] fun t30 =>
        bsW Tryd.prog 22 1 [(0, t30)] w fun t31 w =>
        semW Tryd.prog (apS [22, 22] 22 [t6, t31]) w fun t32 w =>
        binQ Tryd.prog w .gtr 3 false t0_2 t1_2 fun t35 =>
        condW t35 (
          binQ Tryd.prog w .add 3 false t7 t25 fun t38 =>
          binQ Tryd.prog w .sub 3 false t0_2 t25 fun t41 =>
          next t41 t1_2 t32 t38 t8 w
        ) (
          binQ Tryd.prog w .add 3 false t8 t25 fun t44 =>
          binQ Tryd.prog w .sub 3 false t1_2 t25 fun t47 =>
          next t0_2 t47 t32 t7 t44 w
        )
      )
    ) (
      R (.returned (.tuple #[t6, (.int .i64 0)])) w
    )

def S35 (t0 t1 : Value) (w : World) (R : Ending → World → Prop) : Prop :=
  callW Tryd.prog (.func (.func 44) #[] #[]) [t0, t1] w fun t12 w =>
  unQ .not t12 fun t13 =>
  condW t13 (
    R (.returned (.tuple #[(.slice none 0 0), (.int .i64 2)])) w
  ) (
    S35L0 t0 t1 R w
  )

def A35 : Ann where
  live := fun
    | 0 => [0, 1, 6, 7, 8]
    | _ => []
  wr := fun
    | 0 => fun i => (Nat.ble 0 i && Nat.ble i 1) || (Nat.ble 4 i && Nat.ble i 9) || (Nat.ble 14 i && Nat.ble i 47)
    | _ => fun _ => false
  sched := fun _ => .done

set_option maxRecDepth 100000 in
theorem ok35 : (codeOk Tryd.f35.ntmps A35 (Tryd.f35.body.getD .skip) 0 && Nat.ble 2 Tryd.f35.ntmps) = true := by kernel_rfl
set_option maxRecDepth 100000 in
theorem lift35 {t0 t1 : Value} {w : World} {R : Ending → World → Prop} (h : S35 t0 t1 w R) : Calls Tryd.prog 35 #[t0, t1] w R :=
  calls_of_cw (fn := Tryd.f35) (c := Tryd.f35.body.getD .skip) A35 mixes Tryd.func35 (by kernel_rfl) ok35
    ((by kernel_rfl : (S35 t0 t1 w R) = cw Tryd.prog A35 (Tryd.f35.body.getD .skip) 0 (bodyQ Tryd.prog Tryd.f35 R) (frOf #[t0, t1]) w).mp h)

def S44 (t0 t1 : Value) (w : World) (R : Ending → World → Prop) : Prop :=
  binQ Tryd.prog w .geq 3 true t0 (.int .i64 1) fun t6 =>
  gd t6 true (fun k => k t0 w) w fun t8 w =>
  gd t6 true (fun k => binQ Tryd.prog w .leq 3 true t8 (.int .i64 1000) fun v => k v w) w fun t9 w =>
  pickQ t6 t9 (.bool false) fun t10 =>
  gd t10 true (fun k => k t1 w) w fun t12 w =>
  gd t10 true (fun k => binQ Tryd.prog w .geq 3 true t12 (.int .i64 1) fun v => k v w) w fun t13 w =>
  pickQ t10 t13 (.bool false) fun t14 =>
  gd t14 true (fun k => k t1 w) w fun t16 w =>
  gd t14 true (fun k => binQ Tryd.prog w .leq 3 true t16 (.int .i64 1000) fun v => k v w) w fun t17 w =>
  pickQ t14 t17 (.bool false) fun t18 =>
  R (.returned t18) w

def A44 : Ann where
  live := fun _ => []
  wr := fun _ _ => false
  sched := fun _ => .done

set_option maxRecDepth 100000 in
theorem ok44 : (codeOk Tryd.f44.ntmps A44 (Tryd.f44.body.getD .skip) 0 && Nat.ble 2 Tryd.f44.ntmps) = true := by kernel_rfl
set_option maxRecDepth 100000 in
theorem lift44 {t0 t1 : Value} {w : World} {R : Ending → World → Prop} (h : S44 t0 t1 w R) : Calls Tryd.prog 44 #[t0, t1] w R :=
  calls_of_cw (fn := Tryd.f44) (c := Tryd.f44.body.getD .skip) A44 mixes Tryd.func44 (by kernel_rfl) ok44
    ((by kernel_rfl : (S44 t0 t1 w R) = cw Tryd.prog A44 (Tryd.f44.body.getD .skip) 0 (bodyQ Tryd.prog Tryd.f44 R) (frOf #[t0, t1]) w).mp h)

def S8 (t0 t1 : Value) (w : World) (R : Ending → World → Prop) : Prop :=
  callW Tryd.prog (.func (.func 34) #[] #[]) [t0, t1] w fun t12 w =>
  exQ t12 0 fun t13 =>
  exQ t12 1 fun t14 =>
  callW Tryd.prog (.func (.func 35) #[] #[]) [t0, t1] w fun t18 w =>
  exQ t18 0 fun t19 =>
  exQ t18 1 fun t20 =>
  callW Tryd.prog (.func (.func 20) #[] #[]) [t13, t19] w fun t23 w =>
  gd t23 true (fun k => k t14 w) w fun t25 w =>
  gd t23 true (fun k => k t20 w) w fun t26 w =>
  gd t23 true (fun k => binQ Tryd.prog w .eql 24 false t25 t26 fun v => k v w) w fun t27 w =>
  pickQ t23 t27 (.bool false) fun t28 =>
  gd t28 true (fun k => callW Tryd.prog (.func (.func 14) #[] #[]) [] w k) w fun t30 w =>
  pickQ t28 t30 (.bool false) fun t31 =>
  R (.returned t31) w

def A8 : Ann where
  live := fun _ => []
  wr := fun _ _ => false
  sched := fun _ => .done

set_option maxRecDepth 100000 in
theorem ok8 : (codeOk Tryd.f8.ntmps A8 (Tryd.f8.body.getD .skip) 0 && Nat.ble 2 Tryd.f8.ntmps) = true := by kernel_rfl
set_option maxRecDepth 100000 in
theorem lift8 {t0 t1 : Value} {w : World} {R : Ending → World → Prop} (h : S8 t0 t1 w R) : Calls Tryd.prog 8 #[t0, t1] w R :=
  calls_of_cw (fn := Tryd.f8) (c := Tryd.f8.body.getD .skip) A8 mixes Tryd.func8 (by kernel_rfl) ok8
    ((by kernel_rfl : (S8 t0 t1 w R) = cw Tryd.prog A8 (Tryd.f8.body.getD .skip) 0 (bodyQ Tryd.prog Tryd.f8 R) (frOf #[t0, t1]) w).mp h)

def S9L1 (t0 t1 t16 : Value) (R : Ending → World → Prop) (w : World) : Prop :=
  Loop2 t0 t1 w fun _ t10 t11 w next_2 =>
    binQ Tryd.prog w .neq 3 true t11 (.int .i64 0) fun t73 =>
    condW t73 (
      Drew w fun w =>
      binQ Tryd.prog w .rem 3 false t10 t11 fun t77 =>
      next_2 t11 t77 w
    ) (
      ln1 t16 fun t80 =>
      binQ Tryd.prog w .sub 3 true t80 (.int .i64 1) fun t81 =>
      iaS 3 t16 t81 fun t82 =>
      fa1 t82 2 fun t83 =>
      ld1 w t83 fun t84 =>
      binQ Tryd.prog w .eql 3 false t84 t10 fun t86 =>
      gd t86 true (fun k => callW Tryd.prog (.func (.func 14) #[] #[]) [] w k) w fun t88 w =>
      pickQ t86 t88 (.bool false) fun t89 =>
      R (.returned t89) w
    )

def S9L0 (t0 t1 t16 : Value) (R : Ending → World → Prop) (w : World) : Prop :=
  Loop1 (.int .i64 1) w fun _ t9 w next =>
    ln1 t16 fun t54 =>
    binQ Tryd.prog w .lss 3 false t9 t54 fun t55 =>
    condW t55 (
      Drew w fun w =>
      iaS 3 t16 t9 fun t60 =>
      fa1 t60 2 fun t61 =>
      ld1 w t61 fun t62 =>
      binQ Tryd.prog w .sub 3 true t9 (.int .i64 1) fun t65 =>
      iaS 3 t16 t65 fun t66 =>
      fa1 t66 2 fun t67 =>
      ld1 w t67 fun t68 =>
      binQ Tryd.prog w .gtr 3 false t62 t68 fun t69 =>
      condW t69 (
        R (.returned (.bool false)) w
      ) (
        binQ Tryd.prog w .add 3 true t9 (.int .i64 1) fun t57 =>
        next t57 w
      )
    ) (
      S9L1 t0 t1 t16 R w
    )

def S9 (t0 t1 : Value) (w : World) (R : Ending → World → Prop) : Prop :=
  callW Tryd.prog (.func (.func 34) #[] #[]) [t0, t1] w fun t15 w =>
  exQ t15 0 fun t16 =>
  exQ t15 1 fun t17 =>
  binQ Tryd.prog w .neq 24 true t17 (.int .i64 0) fun t19 =>
  condW t19 (
    binQ Tryd.prog w .eql 24 true t17 (.int .i64 2) fun t21 =>
    gd t21 false (fun k => k t17 w) w fun t23 w =>
    gd t21 false (fun k => binQ Tryd.prog w .eql 24 true t23 (.int .i64 8) fun v => k v w) w fun t24 w =>
    pickQ t21 (.bool true) t24 fun t25 =>
    gd t25 true (fun k => k t16 w) w fun t27 w =>
    gd t25 true (fun k => ln1 t27 fun v => k v w) w fun t28 w =>
    gd t25 true (fun k => binQ Tryd.prog w .eql 3 true t28 (.int .i64 0) fun v => k v w) w fun t29 w =>
    pickQ t25 t29 (.bool false) fun t30 =>
    gd t30 true (fun k => callW Tryd.prog (.func (.func 14) #[] #[]) [] w k) w fun t32 w =>
    pickQ t30 t32 (.bool false) fun t33 =>
    R (.returned t33) w
  ) (
    callW Tryd.prog (.func (.func 15) #[] #[]) [t0, t1, t16] w fun t38 w =>
    exQ t38 0 fun t39 =>
    exQ t38 1 fun t40 =>
    binQ Tryd.prog w .neq 24 true t40 (.int .i64 0) fun t42 =>
    gd t42 false (fun k => k t39 w) w fun t44 w =>
    gd t42 false (fun k => unQ .not t44 fun v => k v w) w fun t45 w =>
    pickQ t42 (.bool true) t45 fun t46 =>
    gd t46 false (fun k => k t16 w) w fun t48 w =>
    gd t46 false (fun k => ln1 t48 fun v => k v w) w fun t49 w =>
    gd t46 false (fun k => binQ Tryd.prog w .eql 3 true t49 (.int .i64 0) fun v => k v w) w fun t50 w =>
    pickQ t46 (.bool true) t50 fun t51 =>
    condW t51 (
      R (.returned (.bool false)) w
    ) (
      S9L0 t0 t1 t16 R w
    )
  )

def A9 : Ann where
  live := fun
    | 0 => [9]
    | 2 => [10, 11]
    | _ => []
  wr := fun
    | 0 => fun i => Nat.beq i 4 || Nat.beq i 9 || (Nat.ble 52 i && Nat.ble i 69)
    | 2 => fun i => (Nat.ble 10 i && Nat.ble i 11) || (Nat.ble 72 i && Nat.ble i 77)
    | _ => fun _ => false
  sched := fun
    | 10 => (.take 0 (.take 1 (.take 2 (.take 3 (.take 4 (.take 5 (.take 6 (.take 7 (.take 8 (.take 9 (.take 10 (.take 11 .done))))))))))))
    | 14 => (.take 0 (.take 1 (.take 2 (.take 3 (.take 4 (.take 5 .done))))))
    | _ => .done

set_option maxRecDepth 100000 in
theorem ok9 : (codeOk Tryd.f9.ntmps A9 (Tryd.f9.body.getD .skip) 0 && Nat.ble 2 Tryd.f9.ntmps) = true := by kernel_rfl
set_option maxRecDepth 100000 in
theorem lift9 {t0 t1 : Value} {w : World} {R : Ending → World → Prop} (h : S9 t0 t1 w R) : Calls Tryd.prog 9 #[t0, t1] w R :=
  calls_of_cw (fn := Tryd.f9) (c := Tryd.f9.body.getD .skip) A9 mixes Tryd.func9 (by kernel_rfl) ok9
    ((by kernel_rfl : (S9 t0 t1 w R) = cw Tryd.prog A9 (Tryd.f9.body.getD .skip) 0 (bodyQ Tryd.prog Tryd.f9 R) (frOf #[t0, t1]) w).mp h)

theorem fok35 : fnOk Tryd.prog 35 = true := by kernel_rfl
theorem fok44 : fnOk Tryd.prog 44 = true := by kernel_rfl
theorem fok8 : fnOk Tryd.prog 8 = true := by kernel_rfl
theorem fok9 : fnOk Tryd.prog 9 = true := by kernel_rfl
end Go.Proofs.YtkdcldbedbagjaaDoor
