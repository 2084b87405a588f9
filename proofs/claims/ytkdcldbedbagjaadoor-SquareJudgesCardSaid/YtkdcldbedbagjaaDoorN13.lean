/- Texts of my own, merged by program: Sc Sd Va. -/
import Derived.Test.YtkdcldbedbagjaaDoorN02
import Derived.Test.YtkdcldbedbagjaaDoorN11
import Derived.Test.YtkdcldbedbagjaaDoorN12
set_option linter.all false
/- Lifted text of a constant list of squares, tied by the kernel. -/
namespace Go.Proofs.YtkdcldbedbagjaaDoor
open Go.Lf Go.RowKit
def S41 (w : World) (R : Ending → World → Prop) : Prop :=
  bdQ Tryd.prog 44 [(0, (.int .i64 0)), (1, (.int .i64 0)), (2, (.int .i64 18))] fun t1 =>
  bdQ Tryd.prog 44 [(0, (.int .i64 18)), (1, (.int .i64 0)), (2, (.int .i64 15))] fun t2 =>
  bdQ Tryd.prog 44 [(0, (.int .i64 18)), (1, (.int .i64 15)), (2, (.int .i64 7))] fun t3 =>
  bdQ Tryd.prog 44 [(0, (.int .i64 25)), (1, (.int .i64 15)), (2, (.int .i64 8))] fun t4 =>
  bdQ Tryd.prog 44 [(0, (.int .i64 0)), (1, (.int .i64 18)), (2, (.int .i64 14))] fun t5 =>
  bdQ Tryd.prog 44 [(0, (.int .i64 14)), (1, (.int .i64 18)), (2, (.int .i64 4))] fun t6 =>
  bdQ Tryd.prog 44 [(0, (.int .i64 14)), (1, (.int .i64 22)), (2, (.int .i64 10))] fun t7 =>
  bdQ Tryd.prog 44 [(0, (.int .i64 24)), (1, (.int .i64 22)), (2, (.int .i64 1))] fun t8 =>
  bdQ Tryd.prog 44 [(0, (.int .i64 24)), (1, (.int .i64 23)), (2, (.int .i64 9))] fun t9 =>
  bsW Tryd.prog 22 9 [(0, t1), (1, t2), (2, t3), (3, t4), (4, t5), (5, t6), (6, t7), (7, t8), (8, t9)] w fun t10 w =>
  R (.returned t10) w

def A41 : Ann where
  live := fun _ => []
  wr := fun _ _ => false
  sched := fun _ => .done
set_option maxRecDepth 100000 in
theorem ok41 : (codeOk Tryd.f41.ntmps A41 (Tryd.f41.body.getD .skip) 0 && Nat.ble (#[] : Array Value).size Tryd.f41.ntmps) = true := by kernel_rfl
set_option maxRecDepth 100000 in
theorem tie41 (w : World) (R : Ending → World → Prop) : (S41 w R) = cw Tryd.prog A41 (Tryd.f41.body.getD .skip) 0 (bodyQ Tryd.prog Tryd.f41 R) (frOf #[]) w := by kernel_rfl
theorem body41 : Tryd.f41.body = some (Tryd.f41.body.getD .skip) := by kernel_rfl
/-- A call, the lifted text's tie given as an equation. -/
theorem calls_of_eq {P : Program} {f : FuncId} {fn : Func} {c : Code} {args : Array Value} {w : World} {R : Ending → World → Prop} {S : Prop} (A : Ann) (hf : P.funcs[f]? = some fn) (hb : fn.body = some c) (hmix : P.follows .mixedOrders = true) (hok : (codeOk fn.ntmps A c 0 && Nat.ble args.size fn.ntmps) = true)
    (e : S = cw P A c 0 (bodyQ P fn R) (frOf args) w) (h : S) : Calls P f args w R := calls_of_cw A hmix hf hb hok (e ▸ h)
set_option maxRecDepth 100000 in
theorem lift41 {w : World} {R : Ending → World → Prop} (h : S41 w R) : Calls Tryd.prog 41 #[] w R :=
  calls_of_eq A41 Tryd.func41 body41 mixes ok41 (tie41 w R) h
theorem fok41 : fnOk Tryd.prog 41 = true := by kernel_rfl

end Go.Proofs.YtkdcldbedbagjaaDoor

/- Lifted texts, printed by program (gen.py): what each function's code asks. The ties are by the kernel. -/
namespace Go.Proofs.YtkdcldbedbagjaaDoor
open Go.Lf Go.RowKit

def S14 (w : World) (R : Ending → World → Prop) : Prop :=
  bdQ Tryd.prog 40 [(0, (.int .i64 0)), (1, (.int .i64 1))] fun t9 =>
  bdQ Tryd.prog 40 [(0, (.int .i64 1)), (1, (.int .i64 2))] fun t10 =>
  bdQ Tryd.prog 40 [(0, (.int .i64 2)), (1, (.int .i64 0))] fun t11 =>
  bsW Tryd.prog 27 3 [(0, t9), (1, t10), (2, t11)] w fun t12 w =>
  callW Tryd.prog (.func (.func 24) #[] #[]) [(.int .i64 3), t12] w fun t15 w =>
  exQ t15 0 fun t16 =>
  exQ t15 1 fun t17 =>
  callW Tryd.prog (.func (.func 22) #[] #[]) [(.int .i64 3), t12, (.int .i64 0), (.int .i64 1)] w fun t20 w =>
  exQ t20 0 fun t21 =>
  exQ t20 1 fun t22 =>
  boxW 36 (.agg #[(.slice none 0 0), (.int .i64 0), (.int .i64 0)]) w fun t4 w =>
  stW Tryd.prog 36 t4 t21 w fun w =>
  callW Tryd.prog (.func (.func 41) #[] #[]) [] w fun t24 w =>
  callW Tryd.prog (.func (.func 17) #[] #[]) [(.int .i64 33), (.int .i64 32), t24] w fun t25 w =>
  exQ t25 0 fun t26 =>
  exQ t25 1 fun t27 =>
  exQ t25 2 fun t28 =>
  binQ Tryd.prog w .eql 24 true t17 (.int .i64 0) fun t30 =>
  gd t30 true (fun k => k t16 w) w fun t32 w =>
  gd t30 true (fun k => binQ Tryd.prog w .eql 3 true t32 (.int .i64 3) fun v => k v w) w fun t33 w =>
  pickQ t30 t33 (.bool false) fun t34 =>
  gd t34 true (fun k => k t22 w) w fun t36 w =>
  gd t34 true (fun k => binQ Tryd.prog w .eql 24 true t36 (.int .i64 0) fun v => k v w) w fun t37 w =>
  pickQ t34 t37 (.bool false) fun t38 =>
  gd t38 true (fun k => fa1 t4 0 fun v => k v w) w fun t40 w =>
  gd t38 true (fun k => ld1 w t40 fun v => k v w) w fun t41 w =>
  gd t38 true (fun k => bsW Tryd.prog 34 3 [(0, (.int .i64 2)), (1, (.int .i64 (-1))), (2, (.int .i64 (-1)))] w k) w fun t42 w =>
  gd t38 true (fun k => callW Tryd.prog (.func (.func 29) #[] #[]) [t41, t42] w k) w fun t43 w =>
  pickQ t38 t43 (.bool false) fun t44 =>
  gd t44 true (fun k => fa1 t4 2 fun v => k v w) w fun t46 w =>
  gd t44 true (fun k => ld1 w t46 fun v => k v w) w fun t47 w =>
  gd t44 true (fun k => binQ Tryd.prog w .eql 3 true t47 (.int .i64 2) fun v => k v w) w fun t48 w =>
  pickQ t44 t48 (.bool false) fun t49 =>
  gd t49 true (fun k => k t28 w) w fun t51 w =>
  gd t49 true (fun k => binQ Tryd.prog w .eql 24 true t51 (.int .i64 0) fun v => k v w) w fun t52 w =>
  pickQ t49 t52 (.bool false) fun t53 =>
  gd t53 true (fun k => k t26 w) w fun t55 w =>
  gd t53 true (fun k => binQ Tryd.prog w .eql 3 true t55 (.int .i64 6) fun v => k v w) w fun t56 w =>
  pickQ t53 t56 (.bool false) fun t57 =>
  gd t57 true (fun k => k t27 w) w fun t59 w =>
  gd t57 true (fun k => ln1 t59 fun v => k v w) w fun t60 w =>
  gd t57 true (fun k => binQ Tryd.prog w .eql 3 true t60 (.int .i64 9) fun v => k v w) w fun t61 w =>
  pickQ t57 t61 (.bool false) fun t62 =>
  R (.returned t62) w

def A14 : Ann where
  live := fun _ => []
  wr := fun _ _ => false
  sched := fun _ => .done

set_option maxRecDepth 100000 in
theorem ok14 : (codeOk Tryd.f14.ntmps A14 (Tryd.f14.body.getD .skip) 0 && Nat.ble 0 Tryd.f14.ntmps) = true := by kernel_rfl
set_option maxRecDepth 100000 in
theorem lift14 {w : World} {R : Ending → World → Prop} (h : S14 w R) : Calls Tryd.prog 14 #[] w R :=
  calls_of_cw (fn := Tryd.f14) (c := Tryd.f14.body.getD .skip) A14 mixes Tryd.func14 (by kernel_rfl) ok14
    ((by kernel_rfl : (S14 w R) = cw Tryd.prog A14 (Tryd.f14.body.getD .skip) 0 (bodyQ Tryd.prog Tryd.f14 R) (frOf #[]) w).mp h)

def S29L0 (t0 t1 : Value) (R : Ending → World → Prop) (w : World) : Prop :=
  Loop1 (.int .i64 0) w fun _ t5 w next =>
    ln1 t0 fun t13 =>
    binQ Tryd.prog w .lss 3 false t5 t13 fun t14 =>
    condW t14 (
      Drew w fun w =>
      iaS 1 t0 t5 fun t19 =>
      ld1 w t19 fun t20 =>
      iaS 1 t1 t5 fun t23 =>
      ld1 w t23 fun t24 =>
      binQ Tryd.prog w .neq 3 false t20 t24 fun t25 =>
      condW t25 (
        R (.returned (.bool false)) w
      ) (
        binQ Tryd.prog w .add 3 true t5 (.int .i64 1) fun t16 =>
        next t16 w
      )
    ) (
      R (.returned (.bool true)) w
    )

def S29 (t0 t1 : Value) (w : World) (R : Ending → World → Prop) : Prop :=
  ln1 t0 fun t7 =>
  ln1 t1 fun t9 =>
  binQ Tryd.prog w .neq 3 false t7 t9 fun t10 =>
  condW t10 (
    R (.returned (.bool false)) w
  ) (
    S29L0 t0 t1 R w
  )

def A29 : Ann where
  live := fun
    | 0 => [5]
    | _ => []
  wr := fun
    | 0 => fun i => (Nat.ble 4 i && Nat.ble i 5) || (Nat.ble 11 i && Nat.ble i 25)
    | _ => fun _ => false
  sched := fun
    | 6 => (.take 0 (.take 1 (.take 2 (.take 3 (.take 4 (.take 5 (.take 6 (.take 7 (.take 8 .done)))))))))
    | _ => .done

set_option maxRecDepth 100000 in
theorem ok29 : (codeOk Tryd.f29.ntmps A29 (Tryd.f29.body.getD .skip) 0 && Nat.ble 2 Tryd.f29.ntmps) = true := by kernel_rfl
set_option maxRecDepth 100000 in
theorem lift29 {t0 t1 : Value} {w : World} {R : Ending → World → Prop} (h : S29 t0 t1 w R) : Calls Tryd.prog 29 #[t0, t1] w R :=
  calls_of_cw (fn := Tryd.f29) (c := Tryd.f29.body.getD .skip) A29 mixes Tryd.func29 (by kernel_rfl) ok29
    ((by kernel_rfl : (S29 t0 t1 w R) = cw Tryd.prog A29 (Tryd.f29.body.getD .skip) 0 (bodyQ Tryd.prog Tryd.f29 R) (frOf #[t0, t1]) w).mp h)

def S19L0 (t0 t1 : Value) (R : Ending → World → Prop) (w : World) : Prop :=
  Loop1 (.int .i64 0) w fun _ t5 w next =>
    ln1 t0 fun t13 =>
    binQ Tryd.prog w .lss 3 false t5 t13 fun t14 =>
    condW t14 (
      Drew w fun w =>
      iaS 2 t0 t5 fun t19 =>
      ldN 2 w t19 fun t20 =>
      iaS 2 t1 t5 fun t23 =>
      ldN 2 w t23 fun t24 =>
      binQ Tryd.prog w .neq 40 false t20 t24 fun t25 =>
      condW t25 (
        R (.returned (.bool false)) w
      ) (
        binQ Tryd.prog w .add 3 true t5 (.int .i64 1) fun t16 =>
        next t16 w
      )
    ) (
      R (.returned (.bool true)) w
    )

def S19 (t0 t1 : Value) (w : World) (R : Ending → World → Prop) : Prop :=
  ln1 t0 fun t7 =>
  ln1 t1 fun t9 =>
  binQ Tryd.prog w .neq 3 false t7 t9 fun t10 =>
  condW t10 (
    R (.returned (.bool false)) w
  ) (
    S19L0 t0 t1 R w
  )

def A19 : Ann where
  live := fun
    | 0 => [5]
    | _ => []
  wr := fun
    | 0 => fun i => (Nat.ble 4 i && Nat.ble i 5) || (Nat.ble 11 i && Nat.ble i 25)
    | _ => fun _ => false
  sched := fun
    | 6 => (.take 0 (.take 1 (.take 2 (.take 3 (.take 4 (.take 5 (.take 6 (.take 7 (.take 8 .done)))))))))
    | _ => .done

set_option maxRecDepth 100000 in
theorem ok19 : (codeOk Tryd.f19.ntmps A19 (Tryd.f19.body.getD .skip) 0 && Nat.ble 2 Tryd.f19.ntmps) = true := by kernel_rfl
set_option maxRecDepth 100000 in
theorem lift19 {t0 t1 : Value} {w : World} {R : Ending → World → Prop} (h : S19 t0 t1 w R) : Calls Tryd.prog 19 #[t0, t1] w R :=
  calls_of_cw (fn := Tryd.f19) (c := Tryd.f19.body.getD .skip) A19 mixes Tryd.func19 (by kernel_rfl) ok19
    ((by kernel_rfl : (S19 t0 t1 w R) = cw Tryd.prog A19 (Tryd.f19.body.getD .skip) 0 (bodyQ Tryd.prog Tryd.f19 R) (frOf #[t0, t1]) w).mp h)

def S20L0 (t0 t1 : Value) (R : Ending → World → Prop) (w : World) : Prop :=
  Loop1 (.int .i64 0) w fun _ t5 w next =>
    ln1 t0 fun t13 =>
    binQ Tryd.prog w .lss 3 false t5 t13 fun t14 =>
    condW t14 (
      Drew w fun w =>
      iaS 3 t0 t5 fun t19 =>
      ldN 3 w t19 fun t20 =>
      iaS 3 t1 t5 fun t23 =>
      ldN 3 w t23 fun t24 =>
      binQ Tryd.prog w .neq 44 false t20 t24 fun t25 =>
      condW t25 (
        R (.returned (.bool false)) w
      ) (
        binQ Tryd.prog w .add 3 true t5 (.int .i64 1) fun t16 =>
        next t16 w
      )
    ) (
      R (.returned (.bool true)) w
    )

def S20 (t0 t1 : Value) (w : World) (R : Ending → World → Prop) : Prop :=
  ln1 t0 fun t7 =>
  ln1 t1 fun t9 =>
  binQ Tryd.prog w .neq 3 false t7 t9 fun t10 =>
  condW t10 (
    R (.returned (.bool false)) w
  ) (
    S20L0 t0 t1 R w
  )

def A20 : Ann where
  live := fun
    | 0 => [5]
    | _ => []
  wr := fun
    | 0 => fun i => (Nat.ble 4 i && Nat.ble i 5) || (Nat.ble 11 i && Nat.ble i 25)
    | _ => fun _ => false
  sched := fun
    | 6 => (.take 0 (.take 1 (.take 2 (.take 3 (.take 4 (.take 5 (.take 6 (.take 7 (.take 8 .done)))))))))
    | _ => .done

set_option maxRecDepth 100000 in
theorem ok20 : (codeOk Tryd.f20.ntmps A20 (Tryd.f20.body.getD .skip) 0 && Nat.ble 2 Tryd.f20.ntmps) = true := by kernel_rfl
set_option maxRecDepth 100000 in
theorem lift20 {t0 t1 : Value} {w : World} {R : Ending → World → Prop} (h : S20 t0 t1 w R) : Calls Tryd.prog 20 #[t0, t1] w R :=
  calls_of_cw (fn := Tryd.f20) (c := Tryd.f20.body.getD .skip) A20 mixes Tryd.func20 (by kernel_rfl) ok20
    ((by kernel_rfl : (S20 t0 t1 w R) = cw Tryd.prog A20 (Tryd.f20.body.getD .skip) 0 (bodyQ Tryd.prog Tryd.f20 R) (frOf #[t0, t1]) w).mp h)

def S21 (t0 : Value) (w : World) (R : Ending → World → Prop) : Prop :=
  ln1 t0 fun t4 =>
  binQ Tryd.prog w .leq 3 true t4 (.int .i64 40) fun t5 =>
  R (.returned t5) w

def A21 : Ann where
  live := fun _ => []
  wr := fun _ _ => false
  sched := fun _ => .done

set_option maxRecDepth 100000 in
theorem ok21 : (codeOk Tryd.f21.ntmps A21 (Tryd.f21.body.getD .skip) 0 && Nat.ble 1 Tryd.f21.ntmps) = true := by kernel_rfl
set_option maxRecDepth 100000 in
theorem lift21 {t0 : Value} {w : World} {R : Ending → World → Prop} (h : S21 t0 w R) : Calls Tryd.prog 21 #[t0] w R :=
  calls_of_cw (fn := Tryd.f21) (c := Tryd.f21.body.getD .skip) A21 mixes Tryd.func21 (by kernel_rfl) ok21
    ((by kernel_rfl : (S21 t0 w R) = cw Tryd.prog A21 (Tryd.f21.body.getD .skip) 0 (bodyQ Tryd.prog Tryd.f21 R) (frOf #[t0]) w).mp h)

def S23L1 (t1 t7 t11 t12 t13 : Value) (next : Value → World → Prop) (w : World) : Prop :=
  Loop1 (.int .i64 0) w fun _ t14 w next_2 =>
    ln1 t1 fun t32 =>
    binQ Tryd.prog w .lss 3 false t14 t32 fun t33 =>
    condW t33 (
      Drew w fun w =>
      iaS 2 t1 t14 fun t38 =>
      fa1 t38 0 fun t39 =>
      ld1 w t39 fun t40 =>
      iaS 2 t1 t14 fun t43 =>
      fa1 t43 1 fun t44 =>
      ld1 w t44 fun t45 =>
      iaS 1 t12 t40 fun t48 =>
      ld1 w t48 fun t49 =>
      gd t49 true (fun k => k t12 w) w fun t51 w =>
      gd t49 true (fun k => k t45 w) w fun t52 w =>
      gd t49 true (fun k => iaS 1 t51 t52 fun v => k v w) w fun t53 w =>
      gd t49 true (fun k => ld1 w t53 fun v => k v w) w fun t54 w =>
      gd t49 true (fun k => unQ .not t54 fun v => k v w) w fun t55 w =>
      pickQ t49 t55 (.bool false) fun t56 =>
      Join (fun (k_4 : World → Prop) =>
        condW t56 (
          Drew w fun w =>
          iaS 1 t11 t40 fun t61 =>
          ld1 w t61 fun t62 =>
          fa1 t7 0 fun t63 =>
          ld1 w t63 fun t64 =>
          iaS 1 t64 t14 fun t66 =>
          ld1 w t66 fun t67 =>
          binQ Tryd.prog w .sub 3 false t62 t67 fun t68 =>
          iaS 1 t11 t45 fun t69 =>
          stW Tryd.prog 3 t69 t68 w fun w =>
          iaS 1 t12 t45 fun t72 =>
          stW Tryd.prog 4 t72 (.bool true) w fun w =>
          k_4 w
        ) (
          k_4 w
        )
      ) fun w =>
      iaS 1 t12 t45 fun t75_2 =>
      ld1 w t75_2 fun t76_2 =>
      gd t76_2 true (fun k => k t12 w) w fun t78_2 w =>
      gd t76_2 true (fun k => k t40 w) w fun t79_2 w =>
      gd t76_2 true (fun k => iaS 1 t78_2 t79_2 fun v => k v w) w fun t80_2 w =>
      gd t76_2 true (fun k => ld1 w t80_2 fun v => k v w) w fun t81_2 w =>
      gd t76_2 true (fun k => unQ .not t81_2 fun v => k v w) w fun t82_2 w =>
      pickQ t76_2 t82_2 (.bool false) fun t83_2 =>
      Join (fun (k_5 : World → Prop) =>
        condW t83_2 (
          Drew w fun w =>
          iaS 1 t11 t45 fun t88_2 =>
          ld1 w t88_2 fun t89_2 =>
          fa1 t7 0 fun t90_2 =>
          ld1 w t90_2 fun t91_2 =>
          iaS 1 t91_2 t14 fun t93_2 =>
          ld1 w t93_2 fun t94_2 =>
          binQ Tryd.prog w .add 3 false t89_2 t94_2 fun t95_2 =>
          iaS 1 t11 t40 fun t96_2 =>
          stW Tryd.prog 3 t96_2 t95_2 w fun w =>
          iaS 1 t12 t40 fun t99_2 =>
          stW Tryd.prog 4 t99_2 (.bool true) w fun w =>
          k_5 w
        ) (
          k_5 w
        )
      ) fun w =>
      binQ Tryd.prog w .add 3 true t14 (.int .i64 1) fun t35_4 =>
      next_2 t35_4 w
    ) (
      binQ Tryd.prog w .add 3 true t13 (.int .i64 1) fun t29 =>
      next t29 w
    )

def S23L2 (t1 t3 t7 t11 t12 : Value) (R : Ending → World → Prop) (w : World) : Prop :=
  Loop1 (.int .i64 0) w fun _ t17 w next_3 =>
    ln1 t1 fun t102 =>
    binQ Tryd.prog w .lss 3 false t17 t102 fun t103 =>
    condW t103 (
      Drew w fun w =>
      iaS 2 t1 t17 fun t109 =>
      fa1 t109 0 fun t110 =>
      ld1 w t110 fun t111 =>
      iaS 1 t11 t111 fun t112 =>
      ld1 w t112 fun t113 =>
      iaS 2 t1 t17 fun t117 =>
      fa1 t117 1 fun t118 =>
      ld1 w t118 fun t119 =>
      iaS 1 t11 t119 fun t120 =>
      ld1 w t120 fun t121 =>
      binQ Tryd.prog w .sub 3 false t113 t121 fun t122 =>
      fa1 t7 0 fun t123 =>
      ld1 w t123 fun t124 =>
      iaS 1 t124 t17 fun t126 =>
      ld1 w t126 fun t127 =>
      binQ Tryd.prog w .neq 3 false t122 t127 fun t128 =>
      condW t128 (
        R (.returned (.bool false)) w
      ) (
        binQ Tryd.prog w .add 3 true t17 (.int .i64 1) fun t105 =>
        next_3 t105 w
      )
    ) (
      Drew w fun w =>
      iaS 1 t12 t3 fun t131 =>
      ld1 w t131 fun t132 =>
      gdQ t132 true (fun k => k t11) fun t134 =>
      gdQ t132 true (fun k => k t3) fun t135 =>
      gdQ t132 true (fun k => iaS 1 t134 t135 k) fun t136 =>
      gdQ t132 true (fun k => ld1 w t136 k) fun t137 =>
      gdQ t132 true (fun k => fa1 t7 2 k) fun t138 =>
      gdQ t132 true (fun k => ld1 w t138 k) fun t139 =>
      gdQ t132 true (fun k => binQ Tryd.prog w .eql 3 false t137 t139 k) fun t140 =>
      pickQ t132 t140 (.bool false) fun t141 =>
      R (.returned t141) w
    )

def S23L0 (t0 t1 t3 t7 t11 t12 : Value) (R : Ending → World → Prop) (w : World) : Prop :=
  Loop1 (.int .i64 0) w fun _ t13 w next =>
    binQ Tryd.prog w .lss 3 false t13 t0 fun t27 =>
    condW t27 (
      S23L1 t1 t7 t11 t12 t13 next w
    ) (
      S23L2 t1 t3 t7 t11 t12 R w
    )



def S23 (t0 t1 t2 t3 t4 : Value) (w : World) (R : Ending → World → Prop) : Prop :=
  boxW 36 t2 w fun t7 w =>
  Drew w fun w =>
  Join (fun (k_2 : Value → Value → World → Prop) =>
    And (
      mkW Tryd.prog 34 t0 t0 w <| keepB w fun t19 w =>
      mkW Tryd.prog 85 t0 t0 w <| keepB w fun t21 w =>
      k_2 t19 t21 w
    ) <|
    And (
      mkW Tryd.prog 85 t0 t0 w <| keepB w fun t21_2 w =>
      mkW Tryd.prog 34 t0 t0 w <| keepB w fun t19_2 w =>
      k_2 t19_2 t21_2 w
    ) <|
    True
  ) fun t11 t12 w =>
  iaS 1 t12 t4 fun t24 =>
  stW Tryd.prog 4 t24 (.bool true) w fun w =>
  S23L0 t0 t1 t3 t7 t11 t12 R w

def A23 : Ann where
  live := fun
    | 0 => [13]
    | 2 => [14]
    | 4 => [17]
    | _ => []
  wr := fun
    | 0 => fun i => (Nat.ble 13 i && Nat.ble i 16) || (Nat.ble 25 i && Nat.ble i 99)
    | 2 => fun i => (Nat.ble 14 i && Nat.ble i 16) || (Nat.ble 30 i && Nat.ble i 99)
    | 4 => fun i => Nat.beq i 10 || Nat.beq i 17 || (Nat.ble 100 i && Nat.ble i 128)
    | _ => fun _ => false
  sched := fun
    | 1 => (.take 0 (.take 2 (.alt 1 (.take 4 (.eff 3 (.take 5 .done))) (.alt 3 (.eff 1 (.take 4 (.take 5 .done))) .nomore))))
    | 9 => (.take 0 (.take 1 (.take 2 (.take 3 (.take 4 (.take 5 (.take 6 (.take 7 (.take 8 (.take 9 (.take 10 (.take 11 .done))))))))))))
    | 11 => (.take 0 (.take 1 (.take 2 (.take 3 (.take 4 (.take 5 (.take 6 (.take 7 (.take 8 (.take 9 (.take 10 (.take 11 (.take 12 (.bar 13 .done))))))))))))))
    | 14 => (.take 0 (.take 1 (.take 2 (.take 3 (.take 4 (.take 5 (.take 6 (.take 7 (.take 8 (.take 9 (.take 10 (.take 11 (.take 12 (.bar 13 .done))))))))))))))
    | 19 => (.take 0 (.take 1 (.take 2 (.take 3 (.take 4 (.take 5 (.take 6 (.take 7 (.take 8 (.take 9 (.take 10 (.take 11 (.take 12 (.take 13 (.take 14 (.take 15 (.take 16 (.take 17 (.take 18 (.take 19 (.take 20 (.take 21 (.take 22 .done)))))))))))))))))))))))
    | 21 => (.take 0 (.take 1 (.take 2 (.take 3 (.take 4 (.take 5 (.take 6 (.take 7 (.take 8 (.take 9 (.take 10 (.take 11 (.take 12 (.take 13 .done))))))))))))))
    | _ => .done

set_option maxRecDepth 100000 in
theorem ok23 : (codeOk Tryd.f23.ntmps A23 (Tryd.f23.body.getD .skip) 0 && Nat.ble 5 Tryd.f23.ntmps) = true := by kernel_rfl
set_option maxRecDepth 100000 in
theorem lift23 {t0 t1 t2 t3 t4 : Value} {w : World} {R : Ending → World → Prop} (h : S23 t0 t1 t2 t3 t4 w R) : Calls Tryd.prog 23 #[t0, t1, t2, t3, t4] w R :=
  calls_of_cw (fn := Tryd.f23) (c := Tryd.f23.body.getD .skip) A23 mixes Tryd.func23 (by kernel_rfl) ok23
    ((by kernel_rfl : (S23 t0 t1 t2 t3 t4 w R) = cw Tryd.prog A23 (Tryd.f23.body.getD .skip) 0 (bodyQ Tryd.prog Tryd.f23 R) (frOf #[t0, t1, t2, t3, t4]) w).mp h)

def S4L1 (t0 t1 t2 t3 t9 t14 t79 : Value) (R : Ending → World → Prop) (w : World) : Prop :=
  Loop1 (.int .i64 0) w fun _ t16 w next_2 =>
    binQ Tryd.prog w .lss 3 false t16 t0 fun t143 =>
    condW t143 (
      binQ Tryd.prog w .neq 3 false t16 t2 fun t148 =>
      gd t148 true (fun k => k t16 w) w fun t150 w =>
      gd t148 true (fun k => k t3 w) w fun t151 w =>
      gd t148 true (fun k => binQ Tryd.prog w .neq 3 false t150 t151 fun v => k v w) w fun t152 w =>
      pickQ t148 t152 (.bool false) fun t153 =>
      gd t153 true (fun k => k t79 w) w fun t155 w =>
      gd t153 true (fun k => k t16 w) w fun t156 w =>
      gd t153 true (fun k => iaS 1 t155 t156 fun v => k v w) w fun t157 w =>
      gd t153 true (fun k => ld1 w t157 fun v => k v w) w fun t158 w =>
      gd t153 true (fun k => binQ Tryd.prog w .neq 3 true t158 (.int .i64 0) fun v => k v w) w fun t159 w =>
      pickQ t153 t159 (.bool false) fun t160 =>
      condW t160 (
        R (.returned (.bool false)) w
      ) (
        binQ Tryd.prog w .add 3 true t16 (.int .i64 1) fun t145 =>
        next_2 t145 w
      )
    ) (
      Drew w fun w =>
      iaS 1 t79 t2 fun t163 =>
      ld1 w t163 fun t164 =>
      fa1 t9 1 fun t165 =>
      ld1 w t165 fun t166 =>
      binQ Tryd.prog w .eql 3 false t164 t166 fun t167 =>
      gdQ t167 true (fun k => k t79) fun t169 =>
      gdQ t167 true (fun k => k t3) fun t170 =>
      gdQ t167 true (fun k => iaS 1 t169 t170 k) fun t171 =>
      gdQ t167 true (fun k => ld1 w t171 k) fun t172 =>
      gdQ t167 true (fun k => fa1 t9 1 k) fun t173 =>
      gdQ t167 true (fun k => ld1 w t173 k) fun t174 =>
      gdQ t167 true (fun k => unQ .neg t174 k) fun t175 =>
      gdQ t167 true (fun k => binQ Tryd.prog w .eql 3 false t172 t175 k) fun t176 =>
      pickQ t167 t176 (.bool false) fun t177 =>
      gdQ t177 true (fun k => k t14) fun t179 =>
      gdQ t177 true (fun k => fa1 t9 1 k) fun t180 =>
      gdQ t177 true (fun k => ld1 w t180 k) fun t181 =>
      gdQ t177 true (fun k => fa1 t9 2 k) fun t182 =>
      gdQ t177 true (fun k => ld1 w t182 k) fun t183 =>
      gdQ t177 true (fun k => binQ Tryd.prog w .mul 3 false t181 t183 k) fun t184 =>
      gdQ t177 true (fun k => binQ Tryd.prog w .eql 3 false t179 t184 k) fun t185 =>
      pickQ t177 t185 (.bool false) fun t186 =>
      gdQ t186 true (fun k => k t0) fun t188 =>
      gdQ t186 true (fun k => k t1) fun t189 =>
      gdQ t186 true (fun k => ldN 3 w t9 k) fun t190 =>
      gdQ t186 true (fun k => k t2) fun t191 =>
      gdQ t186 true (fun k => k t3) fun t192 =>
      gd t186 true (fun k => callW Tryd.prog (.func (.func 23) #[] #[]) [t188, t189, t190, t191, t192] w k) w <| keepB w fun t193 w =>
      pickQ t186 t193 (.bool false) fun t194 =>
      gd t194 true (fun k => callW Tryd.prog (.func (.func 14) #[] #[]) [] w k) w <| keepB w fun t196 w =>
      pickQ t194 t196 (.bool false) fun t197 =>
      R (.returned t197) w
    )

def S4L0 (t0 t1 t2 t3 t9 t11 t79 : Value) (R : Ending → World → Prop) (w : World) : Prop :=
  Loop2 (.int .i64 0) (.int .i64 0) w fun _ t14 t15 w next =>
    ln1 t1 fun t82 =>
    binQ Tryd.prog w .lss 3 false t15 t82 fun t83 =>
    condW t83 (
      Drew w fun w =>
      iaS 2 t1 t15 fun t89 =>
      fa1 t89 0 fun t90 =>
      ld1 w t90 fun t91 =>
      iaS 1 t79 t91 fun t92 =>
      ld1 w t92 fun t93 =>
      fa1 t9 0 fun t94 =>
      ld1 w t94 fun t95 =>
      iaS 1 t95 t15 fun t97 =>
      ld1 w t97 fun t98 =>
      binQ Tryd.prog w .add 3 false t93 t98 fun t99 =>
      iaS 1 t79 t91 fun t100 =>
      stW Tryd.prog 3 t100 t99 w fun w =>
      Drew w fun w =>
      iaS 2 t1 t15 fun t104 =>
      fa1 t104 1 fun t105 =>
      ld1 w t105 fun t106 =>
      iaS 1 t79 t106 fun t107 =>
      ld1 w t107 fun t108 =>
      fa1 t9 0 fun t109 =>
      ld1 w t109 fun t110 =>
      iaS 1 t110 t15 fun t112 =>
      ld1 w t112 fun t113 =>
      binQ Tryd.prog w .sub 3 false t108 t113 fun t114 =>
      iaS 1 t79 t106 fun t115 =>
      stW Tryd.prog 3 t115 t114 w fun w =>
      Drew w fun w =>
      fa1 t9 0 fun t117 =>
      ld1 w t117 fun t118 =>
      iaS 1 t118 t15 fun t120 =>
      ld1 w t120 fun t121 =>
      fa1 t9 0 fun t122 =>
      ld1 w t122 fun t123 =>
      iaS 1 t123 t15 fun t125 =>
      ld1 w t125 fun t126 =>
      binQ Tryd.prog w .mul 3 false t121 t126 fun t127 =>
      binQ Tryd.prog w .add 3 false t14 t127 fun t128 =>
      Drew w fun w =>
      fa1 t11 0 fun t129 =>
      ld1 w t129 fun t130 =>
      iaS 1 t130 t15 fun t132 =>
      ld1 w t132 fun t133 =>
      fa1 t9 0 fun t134 =>
      ld1 w t134 fun t135 =>
      iaS 1 t135 t15 fun t137 =>
      ld1 w t137 fun t138 =>
      unQ .neg t138 fun t139 =>
      binQ Tryd.prog w .neq 3 false t133 t139 fun t140 =>
      condW t140 (
        R (.returned (.bool false)) w
      ) (
        binQ Tryd.prog w .add 3 true t15 (.int .i64 1) fun t85 =>
        next t128 t85 w
      )
    ) (
      S4L1 t0 t1 t2 t3 t9 t14 t79 R w
    )

def S4 (t0 t1 t2 t3 : Value) (w : World) (R : Ending → World → Prop) : Prop :=
  callW Tryd.prog (.func (.func 21) #[] #[]) [t1] w fun t18 w =>
  unQ .not t18 fun t19 =>
  condW t19 (
    callW Tryd.prog (.func (.func 14) #[] #[]) [] w fun t20 w =>
    R (.returned t20) w
  ) (
    callW Tryd.prog (.func (.func 22) #[] #[]) [t0, t1, t2, t3] w fun t26 w =>
    exQ t26 0 fun t27 =>
    exQ t26 1 fun t28 =>
    boxW 36 (.agg #[(.slice none 0 0), (.int .i64 0), (.int .i64 0)]) w fun t9 w =>
    stW Tryd.prog 36 t9 t27 w fun w =>
    callW Tryd.prog (.func (.func 22) #[] #[]) [t0, t1, t3, t2] w fun t34 w =>
    exQ t34 0 fun t35 =>
    exQ t34 1 fun t36 =>
    boxW 36 (.agg #[(.slice none 0 0), (.int .i64 0), (.int .i64 0)]) w fun t11 w =>
    stW Tryd.prog 36 t11 t35 w fun w =>
    binQ Tryd.prog w .neq 24 false t28 t36 fun t39 =>
    gd t39 false (fun k => k t28 w) w fun t41 w =>
    gd t39 false (fun k => binQ Tryd.prog w .neq 24 true t41 (.int .i64 0) fun v => k v w) w fun t42 w =>
    pickQ t39 (.bool true) t42 fun t43 =>
    condW t43 (
      binQ Tryd.prog w .eql 24 false t28 t36 fun t46 =>
      gd t46 true (fun k => callW Tryd.prog (.func (.func 14) #[] #[]) [] w k) w fun t48 w =>
      pickQ t46 t48 (.bool false) fun t49 =>
      R (.returned t49) w
    ) (
      fa1 t9 0 fun t50 =>
      ld1 w t50 fun t51 =>
      ln1 t51 fun t52 =>
      ln1 t1 fun t54 =>
      binQ Tryd.prog w .neq 3 false t52 t54 fun t55 =>
      gd t55 false (fun k => fa1 t11 0 fun v => k v w) w fun t57 w =>
      gd t55 false (fun k => ld1 w t57 fun v => k v w) w fun t58 w =>
      gd t55 false (fun k => ln1 t58 fun v => k v w) w fun t59 w =>
      gd t55 false (fun k => k t1 w) w fun t60 w =>
      gd t55 false (fun k => ln1 t60 fun v => k v w) w fun t61 w =>
      gd t55 false (fun k => binQ Tryd.prog w .neq 3 false t59 t61 fun v => k v w) w fun t62 w =>
      pickQ t55 (.bool true) t62 fun t63 =>
      gd t63 false (fun k => fa1 t11 1 fun v => k v w) w fun t65 w =>
      gd t63 false (fun k => ld1 w t65 fun v => k v w) w fun t66 w =>
      gd t63 false (fun k => fa1 t9 1 fun v => k v w) w fun t67 w =>
      gd t63 false (fun k => ld1 w t67 fun v => k v w) w fun t68 w =>
      gd t63 false (fun k => binQ Tryd.prog w .neq 3 false t66 t68 fun v => k v w) w fun t69 w =>
      pickQ t63 (.bool true) t69 fun t70 =>
      gd t70 false (fun k => fa1 t11 2 fun v => k v w) w fun t72 w =>
      gd t70 false (fun k => ld1 w t72 fun v => k v w) w fun t73 w =>
      gd t70 false (fun k => fa1 t9 2 fun v => k v w) w fun t74 w =>
      gd t70 false (fun k => ld1 w t74 fun v => k v w) w fun t75 w =>
      gd t70 false (fun k => binQ Tryd.prog w .neq 3 false t73 t75 fun v => k v w) w fun t76 w =>
      pickQ t70 (.bool true) t76 fun t77 =>
      condW t77 (
        R (.returned (.bool false)) w
      ) (
        mkW Tryd.prog 34 t0 t0 w fun t79 w =>
        S4L0 t0 t1 t2 t3 t9 t11 t79 R w
      )
    )
  )

def A4 : Ann where
  live := fun
    | 0 => [14, 15]
    | 2 => [16]
    | _ => []
  wr := fun
    | 0 => fun i => Nat.beq i 8 || (Nat.ble 14 i && Nat.ble i 15) || (Nat.ble 80 i && Nat.ble i 140)
    | 2 => fun i => Nat.beq i 8 || Nat.beq i 16 || (Nat.ble 141 i && Nat.ble i 160)
    | _ => fun _ => false
  sched := fun
    | 14 => (.take 0 (.take 1 (.take 2 (.take 3 (.take 4 (.take 5 (.take 6 (.take 7 (.take 8 (.take 9 (.take 10 (.take 11 (.take 12 (.take 13 (.take 14 (.bar 15 .done))))))))))))))))
    | 15 => (.take 0 (.take 1 (.take 2 (.take 3 (.take 4 (.take 5 (.take 6 (.take 7 (.take 8 (.take 9 (.take 10 (.take 11 (.take 12 (.take 13 (.take 14 (.bar 15 .done))))))))))))))))
    | 16 => (.take 0 (.take 1 (.take 2 (.take 3 (.take 4 (.take 5 (.take 6 (.take 7 (.take 8 (.take 9 (.take 10 (.take 11 (.take 12 (.take 13 .done))))))))))))))
    | 17 => (.take 0 (.take 1 (.take 2 (.take 3 (.take 4 (.take 5 (.take 6 (.take 7 (.take 8 (.take 9 (.take 10 (.take 11 .done))))))))))))
    | 24 => (.take 0 (.take 1 (.take 2 (.take 3 (.take 4 (.take 5 (.take 6 (.take 7 (.take 8 (.take 9 (.take 10 (.take 11 (.take 12 (.take 13 (.take 14 (.take 15 (.take 16 (.take 17 (.take 18 (.take 19 (.take 20 (.take 21 (.take 22 (.take 23 (.take 24 (.take 25 (.take 26 (.take 27 (.take 28 (.take 29 (.take 30 (.take 31 (.eff 32 (.take 33 (.take 34 (.eff 35 (.take 36 (.take 37 .done))))))))))))))))))))))))))))))))))))))
    | _ => .done

set_option maxRecDepth 100000 in
theorem ok4 : (codeOk Tryd.f4.ntmps A4 (Tryd.f4.body.getD .skip) 0 && Nat.ble 4 Tryd.f4.ntmps) = true := by kernel_rfl
set_option maxRecDepth 100000 in
theorem lift4 {t0 t1 t2 t3 : Value} {w : World} {R : Ending → World → Prop} (h : S4 t0 t1 t2 t3 w R) : Calls Tryd.prog 4 #[t0, t1, t2, t3] w R :=
  calls_of_cw (fn := Tryd.f4) (c := Tryd.f4.body.getD .skip) A4 mixes Tryd.func4 (by kernel_rfl) ok4
    ((by kernel_rfl : (S4 t0 t1 t2 t3 w R) = cw Tryd.prog A4 (Tryd.f4.body.getD .skip) 0 (bodyQ Tryd.prog Tryd.f4 R) (frOf #[t0, t1, t2, t3]) w).mp h)

theorem fok14 : fnOk Tryd.prog 14 = true := by kernel_rfl
theorem fok29 : fnOk Tryd.prog 29 = true := by kernel_rfl
theorem fok19 : fnOk Tryd.prog 19 = true := by kernel_rfl
theorem fok20 : fnOk Tryd.prog 20 = true := by kernel_rfl
theorem fok21 : fnOk Tryd.prog 21 = true := by kernel_rfl
theorem fok23 : fnOk Tryd.prog 23 = true := by kernel_rfl
theorem fok4 : fnOk Tryd.prog 4 = true := by kernel_rfl
end Go.Proofs.YtkdcldbedbagjaaDoor

/- Contracts: same, wired, squares, few, nine, alive of the statements. -/
namespace Go.Proofs.YtkdcldbedbagjaaDoor
open Go.Lf Go.RowKit Go.Dt

theorem eq_take {α : Type} [DecidableEq α] {a b : List α} (d : α) (hl : a.length = b.length) (h : ∀ i, i < a.length → a.getD i d = b.getD i d) : a = b := by
  refine List.ext_getElem hl fun i h1 h2 => ?_
  have := h i h1
  rwa [getD_lt _ _ _ h1, getD_lt _ _ _ h2] at this
theorem ne_at {α : Type} [DecidableEq α] {a b : List α} (d : α) {i : Nat} (h : ¬ a.getD i d = b.getD i d) : ¬ a = b := fun e => h (by rw [e])

set_option maxRecDepth 100000 in
theorem same_calls {va vb : Value} {a b : List Int} (w : World) (ha : RdInts w va a) (hb : RdInts w vb b) : Calls Tryd.prog 29 #[va, vb] w fun e w' => e = .returned (.bool (decide (a = b))) ∧ Kp w w' := by
  obtain ⟨aa, ac, ea, hal, _⟩ := ha.len
  obtain ⟨ba, bc, eb, hbl, _⟩ := hb.len
  have lna : ∀ K : Value → Prop, ln1 va K = K (.int .i64 a.length) := fun K => by rw [ea]; rfl
  have lnb : ∀ K : Value → Prop, ln1 vb K = K (.int .i64 b.length) := fun K => by rw [eb]; rfl
  refine lift29 ?_
  unfold S29
  rw [lna, lnb, r_neq]
  by_cases hl : a.length = b.length
  case neg =>
    have hl' : ¬ (a.length : Int) = (b.length : Int) := by omega
    rw [decide_eq_false hl', Bool.not_false, r_condT]
    exact ⟨ret_bool (decide_eq_false fun e => hl (by rw [e])).symm, Kp.refl _⟩
  have hl' : (a.length : Int) = (b.length : Int) := by omega
  rw [decide_eq_true hl', Bool.not_true, r_condF]
  unfold S29L0
  refine ⟨fun t5 wr => ∃ i : Nat, i ≤ a.length ∧ t5 = .int .i64 i ∧ (∀ j, j < i → a.getD j 0 = b.getD j 0) ∧ Kp w wr, fun t5 _ => a.length - (intOf t5).toNat, ⟨0, by omega, rfl, fun j hj => by omega, Kp.refl _⟩, ?_⟩
  rintro _ _ wr ⟨i, hi, rfl, he, kr⟩
  rw [lna]
  by_cases hlt : i < a.length
  case neg =>
    have hlt' : ¬ (i : Int) < (a.length : Int) := by omega
    simp only [r_lss, hlt', decide_false, r_condF]
    exact ⟨ret_bool (decide_eq_true (eq_take 0 hl fun j hj => he j (by omega))).symm, kr⟩
  have hlt' : (i : Int) < (a.length : Int) := by omega
  simp only [r_lss, decide_eq_true hlt', r_condT]
  refine r_drew fun w2 k2 _ => ?_
  have k02 := Kp.trans kr k2
  rw [ints_ldK (ha.below k02) hlt, ints_ldK (hb.below k02) (by omega), r_neq]
  by_cases hx : a.getD i 0 = b.getD i 0
  · rw [decide_eq_true hx, Bool.not_true, r_condF, r_add _ _ (by omega) (by omega)]
    refine ⟨⟨i + 1, by omega, by go_num, fun j hj => ?_, k02⟩, by simp only [intOf]; omega⟩
    by_cases e : j = i
    · rw [e]; exact hx
    · exact he j (by omega)
  · rw [decide_eq_false hx, Bool.not_false, r_condT]
    exact ⟨ret_bool (decide_eq_false (ne_at 0 hx)).symm, k02⟩

theorem pair_eta (p : Int × Int) : wV p.1 p.2 = paV2 p := rfl
set_option maxRecDepth 100000 in
theorem wired_calls {va vb : Value} {a b : List (Int × Int)} (w : World) (ha : RdW w va a) (hb : RdW w vb b) (hs : a.length ≤ 1000000) : Calls Tryd.prog 19 #[va, vb] w fun e w' => e = .returned (.bool (decide (a = b))) ∧ Kp w w' := by
  obtain ⟨aa, ac, ea, _⟩ := ha.len
  obtain ⟨ba, bc, eb, _⟩ := hb.len
  have lna : ∀ K : Value → Prop, ln1 va K = K (.int .i64 a.length) := fun K => by rw [ea]; rfl
  have lnb : ∀ K : Value → Prop, ln1 vb K = K (.int .i64 b.length) := fun K => by rw [eb]; rfl
  refine lift19 ?_
  unfold S19
  rw [lna, lnb, r_neq]
  by_cases hl : a.length = b.length
  case neg =>
    have hl' : ¬ (a.length : Int) = (b.length : Int) := by omega
    rw [decide_eq_false hl', Bool.not_false, r_condT]
    exact ⟨ret_bool (decide_eq_false fun e => hl (by rw [e])).symm, Kp.refl _⟩
  have hl' : (a.length : Int) = (b.length : Int) := by omega
  rw [decide_eq_true hl', Bool.not_true, r_condF]
  unfold S19L0
  refine ⟨fun t5 wr => ∃ i : Nat, i ≤ a.length ∧ t5 = .int .i64 i ∧ (∀ j, j < i → a.getD j (0, 0) = b.getD j (0, 0)) ∧ Kp w wr, fun t5 _ => a.length - (intOf t5).toNat, ⟨0, by omega, rfl, fun j hj => by omega, Kp.refl _⟩, ?_⟩
  rintro _ _ wr ⟨i, hi, rfl, he, kr⟩
  rw [lna]
  by_cases hlt : i < a.length
  case neg =>
    have hlt' : ¬ (i : Int) < (a.length : Int) := by omega
    simp only [r_lss, hlt', decide_false, r_condF]
    exact ⟨ret_bool (decide_eq_true (eq_take (0, 0) hl fun j hj => he j (by omega))).symm, kr⟩
  have hlt' : (i : Int) < (a.length : Int) := by omega
  simp only [r_lss, decide_eq_true hlt', r_condT]
  refine r_drew fun w2 k2 _ => ?_
  have k02 := Kp.trans kr k2
  rw [wireZ_at (ha.kp k02) hlt, wireZ_at (hb.kp k02) (by omega), pair_eta, pair_eta, r_ne40]
  by_cases hx : a.getD i (0, 0) = b.getD i (0, 0)
  · rw [decide_eq_true hx, Bool.not_true, r_condF, r_add _ _ (by omega) (by omega)]
    refine ⟨⟨i + 1, by omega, by go_num, fun j hj => ?_, k02⟩, by simp only [intOf]; omega⟩
    by_cases e : j = i
    · rw [e]; exact hx
    · exact he j (by omega)
  · rw [decide_eq_false hx, Bool.not_false, r_condT]
    exact ⟨ret_bool (decide_eq_false (ne_at (0, 0) hx)).symm, k02⟩

set_option maxRecDepth 100000 in
theorem squares_calls {va vb : Value} {a b : List T3} (w : World) (ha : RdS w va a) (hb : RdS w vb b) (hs : a.length ≤ 1000000) : Calls Tryd.prog 20 #[va, vb] w fun e w' => e = .returned (.bool (decide (a = b))) ∧ Kp w w' := by
  obtain ⟨aa, ac, ea, _⟩ := ha.len
  obtain ⟨ba, bc, eb, _⟩ := hb.len
  have lna : ∀ K : Value → Prop, ln1 va K = K (.int .i64 a.length) := fun K => by rw [ea]; rfl
  have lnb : ∀ K : Value → Prop, ln1 vb K = K (.int .i64 b.length) := fun K => by rw [eb]; rfl
  refine lift20 ?_
  unfold S20
  rw [lna, lnb, r_neq]
  by_cases hl : a.length = b.length
  case neg =>
    have hl' : ¬ (a.length : Int) = (b.length : Int) := by omega
    rw [decide_eq_false hl', Bool.not_false, r_condT]
    exact ⟨ret_bool (decide_eq_false fun e => hl (by rw [e])).symm, Kp.refl _⟩
  have hl' : (a.length : Int) = (b.length : Int) := by omega
  rw [decide_eq_true hl', Bool.not_true, r_condF]
  unfold S20L0
  refine ⟨fun t5 wr => ∃ i : Nat, i ≤ a.length ∧ t5 = .int .i64 i ∧ (∀ j, j < i → a.getD j (0, 0, 0) = b.getD j (0, 0, 0)) ∧ Kp w wr, fun t5 _ => a.length - (intOf t5).toNat, ⟨0, by omega, rfl, fun j hj => by omega, Kp.refl _⟩, ?_⟩
  rintro _ _ wr ⟨i, hi, rfl, he, kr⟩
  rw [lna]
  by_cases hlt : i < a.length
  case neg =>
    have hlt' : ¬ (i : Int) < (a.length : Int) := by omega
    simp only [r_lss, hlt', decide_false, r_condF]
    exact ⟨ret_bool (decide_eq_true (eq_take (0, 0, 0) hl fun j hj => he j (by omega))).symm, kr⟩
  have hlt' : (i : Int) < (a.length : Int) := by omega
  simp only [r_lss, decide_eq_true hlt', r_condT]
  refine r_drew fun w2 k2 _ => ?_
  have k02 := Kp.trans kr k2
  rw [tri_at (ha.kp k02) hlt, tri_at (hb.kp k02) (by omega), r_ne44]
  by_cases hx : a.getD i (0, 0, 0) = b.getD i (0, 0, 0)
  · rw [decide_eq_true hx, Bool.not_true, r_condF, r_add _ _ (by omega) (by omega)]
    refine ⟨⟨i + 1, by omega, by go_num, fun j hj => ?_, k02⟩, by simp only [intOf]; omega⟩
    by_cases e : j = i
    · rw [e]; exact hx
    · exact he j (by omega)
  · rw [decide_eq_false hx, Bool.not_false, r_condT]
    exact ⟨ret_bool (decide_eq_false (ne_at (0, 0, 0) hx)).symm, k02⟩

theorem few_calls {v : Value} {L : List (Int × Int)} (w : World) (hr : RdW w v L) : Calls Tryd.prog 21 #[v] w fun e w' => e = .returned (.bool (decide (L.length ≤ 40))) ∧ w = w' := by
  obtain ⟨a, cap, ev, _⟩ := hr.len
  refine lift21 ?_
  unfold S21
  rw [ev, r_ln, r_leq]
  exact ⟨ret_bool (decide_eq_decide.2 (by omega)), rfl⟩

/-! ### alive -/
def nineL : List T3 := [(0, 0, 18), (18, 0, 15), (18, 15, 7), (25, 15, 8), (0, 18, 14), (14, 18, 4), (14, 22, 10), (24, 22, 1), (24, 23, 9)]
set_option maxRecDepth 100000 in
theorem nine_calls (w : World) : Calls Tryd.prog 41 #[] w fun e w' => Kp w w' ∧ ∃ v, e = .returned v ∧ RdS w' v nineL := by
  refine lift41 ?_
  have e : S41 w (fun e w' => Kp w w' ∧ ∃ v, e = .returned v ∧ RdS w' v nineL) = (Kp w (w.alloc (.cells (recCells t3C nineL).toArray 44)) ∧ ∃ v, Ending.returned (.slice (some ⟨w.heap.size, 0, none⟩) 9 9) = .returned v ∧ RdS (w.alloc (.cells (recCells t3C nineL).toArray 44)) v nineL) := by kernel_rfl
  rw [e]
  exact ⟨below_alloc _, _, rfl, (rec_alloc t3C_len nineL (by decide) w).rd t3C_len⟩

def ringL : List (Int × Int) := [(0, 1), (1, 2), (2, 0)]
def ringW : List Wr := [(0, 1), (1, 2), (2, 0)]
theorem ring_wf : Wf 3 ringW := by
  intro e he
  simp only [ringW, List.mem_cons, List.not_mem_nil, or_false] at he
  rcases he with rfl | rfl | rfl <;> decide
theorem ring_trees : trees 3 ringW = 3 := by
  have h := det_trees (n := 3) (t := 0) ring_wf (by decide)
  have e : det 3 (MS (Dt.one 0) ringW) = 3 := by decide
  omega
theorem ring_volt : volt 3 ringW 0 1 = 2 := by
  have h := det_volt (n := 3) (s := 0) (t := 1) ring_wf
  have e : det 3 (MS (ins (Dt.one 1) 0) ringW) = 2 := by decide
  omega
theorem ring_flow : flowC 3 ringW 0 1 = [2, -1, -1] := by
  have h0 : pot 3 ringW 0 1 0 = 2 := by rw [pot_s (by decide), ring_volt]
  have h1 : pot 3 ringW 0 1 1 = 0 := pot_t
  have h2 : pot 3 ringW 0 1 2 = 1 := by
    have h := det_pot (n := 3) (s := 0) (t := 1) (v := 2) ring_wf (by decide) (by decide) (by decide) (by decide)
    have e : det 3 (setCol (MS (Dt.one 1) ringW) 2 (unit 0)) = 1 := by decide
    omega
  have e : flowC 3 ringW 0 1 = [(pot 3 ringW 0 1 0 : Int) - pot 3 ringW 0 1 1, (pot 3 ringW 0 1 1 : Int) - pot 3 ringW 0 1 2, (pot 3 ringW 0 1 2 : Int) - pot 3 ringW 0 1 0] := rfl
  rw [e, h0, h1, h2]; rfl
set_option maxRecDepth 100000 in
theorem nine_net : nwE 33 32 nineL = 0 ∧ (lvsL nineL).length = 6 := by decide +kernel
set_option maxRecDepth 100000 in
theorem bs27_3 (w : World) (K : Value → World → Prop) : bsW Tryd.prog 27 3 [(0, wV 0 1), (1, wV 1 2), (2, wV 2 0)] w K = K (.slice (some ⟨w.heap.size, 0, none⟩) 3 3) (w.alloc (.cells (recCells wC ringL).toArray 40)) := by kernel_rfl
set_option maxRecDepth 100000 in
theorem bs34_3 (x y z : Int) (w : World) (K : Value → World → Prop) : bsW Tryd.prog 34 3 [(0, .int .i64 x), (1, .int .i64 y), (2, .int .i64 z)] w K = K (.slice (some ⟨w.heap.size, 0, none⟩) 3 3) (w.alloc (.cells (recCells iC [x, y, z]).toArray 3)) := by kernel_rfl

set_option maxRecDepth 100000 in
set_option maxHeartbeats 2000000 in
theorem alive_calls (w : World) (hw : Wh w) : Calls Tryd.prog 14 #[] w fun e w' => e = .returned (.bool true) ∧ Kp w w' := by
  refine lift14 ?_
  unfold S14
  rw [bd40, bd40, bd40, bs27_3]
  have k1 : Kp w (w.alloc (.cells (recCells wC ringL).toArray 40)) := below_alloc _
  have hr := (rec_alloc (e := 40) wC_len ringL (by decide) w).rd wC_len
  have hl3 : ringL.length = 3 := rfl
  rw [hl3] at hr
  generalize w.alloc (.cells (recCells wC ringL).toArray 40) = w1 at *
  have hE : netErr 3 ringL = 0 := by decide
  have hM : ringL.map natW = ringW := rfl
  have hE2 : endErr 3 ringL 0 1 = 0 := by decide
  have hT : treesV 3 ringL = 3 := by unfold treesV; rw [if_pos hE, hM]; have := ring_trees; show ((trees 3 ringW : Nat) : Int) = 3; omega
  have htE : thE 3 ringL 0 1 = 0 := by unfold thE; rw [if_pos hE2, hM]; exact if_neg (by have := ring_trees; show ¬ trees 3 ringW = 0; omega)
  have htV : thV 3 ringL 0 1 = 2 := by unfold thV; rw [if_pos htE, hM]; have := ring_volt; show ((volt 3 ringW 0 1 : Nat) : Int) = 2; omega
  have htC : thC 3 ringL 0 1 = [2, -1, -1] := by unfold thC; rw [if_pos htE, hM]; exact ring_flow
  refine r_use fok24 (Trees_calls (n := 3) w1 (hw.kp k1) hr) rfl ?_
  rintro _ w2 ⟨k2, rfl⟩
  refine ⟨_, rfl, ?_⟩
  rw [r_ex2a, r_ex2b]
  have k02 := Kp.trans k1 k2
  refine r_use fok22 (Through_calls (n := 3) (s := 0) (t := 1) w2 (hw.kp k02) (hr.kp k2)) rfl ?_
  rintro _ w3 ⟨k3, cv, rfl, hC⟩
  refine ⟨_, rfl, ?_⟩
  rw [r_ex2a, r_ex2b]
  have k03 := Kp.trans k02 k3
  refine r_box fun b4 w4 e4 s4 h4 k4 => ?_
  have h4' : w4.heap[b4]? = some (.cells #[.slice none 0 0, .int .i64 0, .int .i64 0] 36 (0, 0)) := h4
  obtain ⟨ca, cc, ecv, _⟩ := hC.len
  have hsz3 := k03.size
  rw [ecv]
  refine st36 h4' fun w5 c5 s5 h45 => ?_
  rw [← ecv] at h45
  have k35 : Kp w3 w5 := Kp.of_chg k4 c5 fun q e => by omega
  have k05 := Kp.trans k03 k35
  refine r_use fok41 (nine_calls w5) rfl ?_
  rintro _ w6 ⟨k6, nv, rfl, hn⟩
  refine ⟨_, rfl, ?_⟩
  refine r_use fok17 (Network_calls (W := 33) (H := 32) w6 hn) rfl ?_
  rintro _ w7 ⟨k7, nw, rfl, hN⟩
  refine ⟨_, rfl, ?_⟩
  rw [r_ex3a, r_ex3b, r_ex3c]
  have k57 := Kp.trans k6 k7
  have k07 := Kp.trans k05 k57
  have h47 := block_below h45 k57
  have c40 : w7.cell? ⟨b4, 0, none⟩ = some cv := by rw [cell_row h47]; rfl
  have c42 : w7.cell? ⟨b4, 2, none⟩ = some (.int .i64 (thV 3 ringL 0 1)) := by rw [cell_row h47]; rfl
  obtain ⟨n1, n2⟩ := nine_net
  have hNN : nwN 33 32 nineL = 6 := by unfold nwN; rw [if_pos n1, n2]; rfl
  have hNW : (nwW 33 32 nineL).length = 9 := by unfold nwW; rw [if_pos n1]; simp [wiresL, nineL]
  obtain ⟨na, nc, env, _⟩ := hN.len
  have lnn : ∀ K : Value → Prop, ln1 nw K = K (.int .i64 9) := fun K => by rw [env, hNW]; rfl
  rw [hE, hT, htE, n1, hNN]
  rw [htV] at c42
  have q0 : decide ((0 : Int) = 0) = true := rfl
  have q3 : decide ((3 : Int) = 3) = true := rfl
  have q2 : decide ((2 : Int) = 2) = true := rfl
  have q6 : decide ((6 : Int) = 6) = true := rfl
  have q9 : decide ((9 : Int) = 9) = true := rfl
  simp only [r_ln, r_pick, r_pickT, r_pickF, r_condT, r_condF, r_gdTT, r_gdFF, r_gdTF, r_gdFT, r_gqTT, r_gqFF, r_gqTF, r_gqFT, r_not, r_lss, r_leq, r_gtr, r_geq, r_eql, r_neq, r_add, r_sub, r_min2, r_max2, r_min3, r_max3, r_fa, r_iaS, r_iaA, r_ex2a, r_ex2b, r_ex3a, r_ex3b, r_ex3c, r_nc, r_keepE, Nat.zero_add, Nat.add_zero, Nat.mul_one, Int.toNat_natCast, toNat_sub1, toNat_add1, decide_true, decide_false, Bool.not_true, Bool.not_false, if_true, if_false, Bool.false_eq_true, reduceCtorEq, q0, q3, r_ld c40]
  rw [bs34_3]
  have k8 : Kp w7 (w7.alloc (.cells (recCells iC [2, -1, -1]).toArray 3)) := below_alloc _
  have h8 := (rec_alloc (e := 3) iC_len ([2, -1, -1] : List Int) (by decide) w7).rd iC_len
  generalize w7.alloc (.cells (recCells iC [2, -1, -1]).toArray 3) = w8 at *
  have hC8 := Rd.ints (((hC.kp (Kp.trans k35 k57)).kp k8).rd iC_len) (by rw [htC]; decide)
  rw [htC] at hC8
  refine r_use fok29 (same_calls w8 hC8 (Rd.ints h8 (by decide))) rfl ?_
  rintro _ w9 ⟨rfl, k9⟩
  refine ⟨_, rfl, ?_⟩
  have c429 := cell_later (Kp.trans k8 k9) c42
  have qs : decide (([2, -1, -1] : List Int) = [2, -1, -1]) = true := rfl
  rw [qs]
  simp only [r_ln, r_pick, r_pickT, r_pickF, r_condT, r_condF, r_gdTT, r_gdFF, r_gdTF, r_gdFT, r_gqTT, r_gqFF, r_gqTF, r_gqFT, r_not, r_lss, r_leq, r_gtr, r_geq, r_eql, r_neq, r_add, r_sub, r_min2, r_max2, r_min3, r_max3, r_fa, r_iaS, r_iaA, r_ex2a, r_ex2b, r_ex3a, r_ex3b, r_ex3c, r_nc, r_keepE, Nat.zero_add, Nat.add_zero, Nat.mul_one, Int.toNat_natCast, toNat_sub1, toNat_add1, decide_true, decide_false, Bool.not_true, Bool.not_false, if_true, if_false, Bool.false_eq_true, reduceCtorEq, q0, q2, q6, q9, r_ld c429, lnn]
  exact ⟨by first | rfl | trivial, Kp.trans k07 (Kp.trans k8 k9)⟩

end Go.Proofs.YtkdcldbedbagjaaDoor
