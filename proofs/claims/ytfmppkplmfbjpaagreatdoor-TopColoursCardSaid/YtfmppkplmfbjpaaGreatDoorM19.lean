/- Texts of my own, merged by program: Sg Ph. -/
import Derived.Test.YtfmppkplmfbjpaaGreatDoorM03
import Derived.Test.YtfmppkplmfbjpaaGreatDoorM18
set_option linter.all false
/- Lifted texts, printed by program (gen.py): what each function's code asks. The ties are by the kernel. -/
namespace Go.Proofs.YtfmppkplmfbjpaaGreatDoor
open Go.Lf Go.RowKit

def S27L1 (t3 t9_2 t78_2 : Value) (next_3 : Value → World → Prop) (R : Ending → World → Prop) (w : World) : Prop :=
  Loop0 w fun _ w next_4 =>
    semW Tryz.prog (nxS t78_2 false 0) w fun t79_2 w =>
    exQ t79_2 0 fun t80_2 =>
    condW t80_2 (
      semW Tryz.prog (enS t78_2) w fun t81_2 w =>
      exQ t81_2 0 fun t82_2 =>
      binQ Tryz.prog w .geq 3 true t82_2 (.int .i64 (-18)) fun t84_2 =>
      gd t84_2 true (fun k => k t82_2 w) w fun t86_2 w =>
      gd t84_2 true (fun k => binQ Tryz.prog w .leq 3 true t86_2 (.int .i64 18) fun v => k v w) w fun t87_2 w =>
      pickQ t84_2 t87_2 (.bool false) fun t88_2 =>
      gd t88_2 true (fun k => ld1 w t3 fun v => k v w) w fun t90_2 w =>
      gd t88_2 true (fun k => k t9_2 w) w fun t91_2 w =>
      gd t88_2 true (fun k => ncQ t90_2 fun v => k v w) w fun t92_2 w =>
      gd t88_2 true (fun k => fa1 t92_2 0 fun v => k v w) w fun t93_2 w =>
      gd t88_2 true (fun k => iaA 8 1 t93_2 t91_2 fun v => k v w) w fun t94_2 w =>
      gd t88_2 true (fun k => ld1 w t94_2 fun v => k v w) w fun t95_2 w =>
      gd t88_2 true (fun k => k t82_2 w) w fun t96_2 w =>
      gd t88_2 true (fun k => semW Tryz.prog (lkS 112 t95_2 t96_2 false) w k) w fun t97_2 w =>
      gd t88_2 true (fun k => unQ .not t97_2 fun v => k v w) w fun t98_2 w =>
      pickQ t88_2 t98_2 (.bool false) fun t99_2 =>
      condW t99_2 (
        R (.returned (.string ⟨#[99, 109]⟩)) w
      ) (
        next_4 w
      )
    ) (
      binQ Tryz.prog w .add 3 true t9_2 (.int .i64 1) fun t71_2 =>
      next_3 t71_2 w
    )

def S27L0 (t3 : Value) (R : Ending → World → Prop) (w : World) : Prop :=
  Loop1 (.int .i64 4) w fun _ t9_2 w next_3 =>
    binQ Tryz.prog w .lss 3 true t9_2 (.int .i64 8) fun t69_2 =>
    condW t69_2 (
      ld1 w t3 fun t72_2 =>
      ncQ t72_2 fun t74_2 =>
      fa1 t74_2 8 fun t75_2 =>
      iaA 8 1 t75_2 t9_2 fun t76_2 =>
      ld1 w t76_2 fun t77_2 =>
      semW Tryz.prog (rgS 112 t77_2) w fun t78_2 w =>
      S27L1 t3 t9_2 t78_2 next_3 R w
    ) (
      R (.returned (.string ⟨#[112, 109]⟩)) w
    )

def S27 (t0 : Value) (w : World) (R : Ending → World → Prop) : Prop :=
  callW Tryz.prog (.func (.func 46) #[] #[]) [t0] w fun t12 w =>
  boxW 106 (.pointer none) w fun t3 w =>
  stW Tryz.prog 106 t3 t12 w fun w =>
  callW Tryz.prog (.func (.func 47) #[] #[]) [t0] w fun t14 w =>
  ld1 w t3 fun t15 =>
  callW Tryz.prog (.func (.func 48) #[] #[]) [t15] w fun t16 w =>
  unQ .not t16 fun t17 =>
  condW t17 (
    mmW w fun t18 w =>
    semW Tryz.prog (muS 109 t18 (.int .i64 1) (.string ⟨#[112, 49]⟩)) w fun _ w =>
    semW Tryz.prog (muS 109 t18 (.int .i64 2) (.string ⟨#[112, 50]⟩)) w fun _ w =>
    semW Tryz.prog (muS 109 t18 (.int .i64 4) (.string ⟨#[112, 52]⟩)) w fun _ w =>
    semW Tryz.prog (lkS 109 t18 t14 false) w fun t21 w =>
    R (.returned t21) w
  ) (
    boxW 4 (.bool false) w fun t5 w =>
    boxW 4 (.bool false) w fun t6 w =>
    stW Tryz.prog 4 t5 (.bool true) w fun w =>
    stW Tryz.prog 4 t6 (.bool false) w fun w =>
    binQ Tryz.prog w .gtr 3 true t14 (.int .i64 1) fun t23 =>
    Join (fun (k_2 : World → Prop) =>
      condW t23 (
        stW Tryz.prog 4 t6 (.bool true) w fun w =>
        binQ Tryz.prog w .eql 3 true t14 (.int .i64 4) fun t25 =>
        Join (fun (k_3 : Value → World → Prop) =>
          condW t25 (
            k_3 (.int .i64 1) w
          ) (
            k_3 (.int .i64 2) w
          )
        ) fun t7 w =>
        callW Tryz.prog (.func (.func 49) #[] #[]) [t0, t7, (.func (.func 50) #[] #[t3, t5, t6])] w fun t29_2 w =>
        k_2 w
      ) (
        k_2 w
      )
    ) fun w =>
    ld1 w t3 fun t30_2 =>
    callW Tryz.prog (.func (.func 52) #[] #[]) [t30_2] w fun t31_2 w =>
    binQ Tryz.prog w .eql 3 true t14 (.int .i64 4) fun t34_2 =>
    gd t34_2 true (fun k => ld1 w t5 fun v => k v w) w fun t36_2 w =>
    gd t34_2 true (fun k => unQ .not t36_2 fun v => k v w) w fun t37_2 w =>
    pickQ t34_2 t37_2 (.bool false) fun t38_2 =>
    condW t38_2 (
      R (.returned (.string ⟨#[112, 52, 109]⟩)) w
    ) (
      binQ Tryz.prog w .eql 3 true t14 (.int .i64 4) fun t41_2 =>
      condW t41_2 (
        R (.returned (.string ⟨#[112, 52, 103]⟩)) w
      ) (
        binQ Tryz.prog w .eql 3 true t14 (.int .i64 2) fun t44_2 =>
        gd t44_2 true (fun k => k t31_2 w) w fun t46_2 w =>
        gd t44_2 true (fun k => binQ Tryz.prog w .eql 3 true t46_2 (.int .i64 0) fun v => k v w) w fun t47_2 w =>
        pickQ t44_2 t47_2 (.bool false) fun t48_2 =>
        condW t48_2 (
          R (.returned (.string ⟨#[112, 103, 103]⟩)) w
        ) (
          binQ Tryz.prog w .eql 3 true t14 (.int .i64 2) fun t51_2 =>
          gd t51_2 true (fun k => k t31_2 w) w fun t53_2 w =>
          gd t51_2 true (fun k => binQ Tryz.prog w .eql 3 true t53_2 (.int .i64 1) fun v => k v w) w fun t54_2 w =>
          pickQ t51_2 t54_2 (.bool false) fun t55_2 =>
          condW t55_2 (
            R (.returned (.string ⟨#[112, 109, 103]⟩)) w
          ) (
            binQ Tryz.prog w .eql 3 true t14 (.int .i64 2) fun t58_2 =>
            gd t58_2 true (fun k => ld1 w t6 fun v => k v w) w fun t60_2 w =>
            pickQ t58_2 t60_2 (.bool false) fun t61_2 =>
            condW t61_2 (
              R (.returned (.string ⟨#[112, 109, 109]⟩)) w
            ) (
              binQ Tryz.prog w .eql 3 true t14 (.int .i64 2) fun t64_2 =>
              condW t64_2 (
                R (.returned (.string ⟨#[99, 109, 109]⟩)) w
              ) (
                binQ Tryz.prog w .eql 3 true t31_2 (.int .i64 0) fun t67_2 =>
                condW t67_2 (
                  R (.returned (.string ⟨#[112, 103]⟩)) w
                ) (
                  S27L0 t3 R w
                )
              )
            )
          )
        )
      )
    )
  )

def A27 : Ann where
  live := fun
    | 1 => [9]
    | 3 => []
    | _ => []
  wr := fun
    | 1 => fun i => Nat.beq i 2 || (Nat.ble 9 i && Nat.ble i 10) || (Nat.ble 68 i && Nat.ble i 99)
    | 3 => fun i => Nat.beq i 2 || Nat.beq i 10 || (Nat.ble 79 i && Nat.ble i 99)
    | _ => fun _ => false
  sched := fun _ => .done

set_option maxRecDepth 100000 in
theorem ok27 : (codeOk Tryz.f27.ntmps A27 (Tryz.f27.body.getD .skip) 0 && Nat.ble 1 Tryz.f27.ntmps) = true := by kernel_rfl
set_option maxRecDepth 100000 in
theorem lift27 {t0 : Value} {w : World} {R : Ending → World → Prop} (h : S27 t0 w R) : Calls Tryz.prog 27 #[t0] w R :=
  calls_of_cw (fn := Tryz.f27) (c := Tryz.f27.body.getD .skip) A27 mixes Tryz.func27 (by kernel_rfl) ok27
    ((by kernel_rfl : (S27 t0 w R) = cw Tryz.prog A27 (Tryz.f27.body.getD .skip) 0 (bodyQ Tryz.prog Tryz.f27 R) (frOf #[t0]) w).mp h)

def S46L2 (t0 t4 t5 t11 : Value) (next_2 : Value → World → Prop) (w : World) : Prop :=
  Loop1 (.int .i64 (-72)) w fun _ t6 w next_3 =>
    binQ Tryz.prog w .leq 3 true t6 (.int .i64 72) fun t33 =>
    condW t33 (
      Join (fun (k_3 : World → Prop) =>
        iaA 8 6 (.pointer (some ⟨0, 0, none⟩)) t4 fun t37 =>
        ldN 6 w t37 fun t38 =>
        boxW 71 (.agg #[(.int .i64 0), (.int .i64 0), (.int .i64 0), (.int .i64 0), (.int .i64 0), (.int .i64 0)]) w fun t7 w =>
        stW Tryz.prog 71 t7 t38 w fun w =>
        fa1 t7 4 fun t41 =>
        stW Tryz.prog 3 t41 t5 w fun w =>
        fa1 t7 5 fun t42 =>
        stW Tryz.prog 3 t42 t6 w fun w =>
        ldN 6 w t7 fun t45 =>
        callW Tryz.prog (.func (.func 75) #[] #[]) [t0, t4, t45] w fun t46 w =>
        unQ .not t46 fun t47 =>
        condW t47 (
          k_3 w
        ) (
          ldN 6 w t7 fun t49 =>
          callW Tryz.prog (.func (.func 76) #[] #[]) [t49] w fun t50 w =>
          exQ t50 0 fun t51 =>
          exQ t50 1 fun t52 =>
          ncQ t11 fun t55 =>
          fa1 t55 8 fun t56 =>
          iaA 8 1 t56 t4 fun t57 =>
          ld1 w t57 fun t58 =>
          semW Tryz.prog (muS 112 t58 t51 (.bool true)) w fun _ w =>
          binQ Tryz.prog w .eql 3 true t52 (.int .i64 0) fun t61 =>
          condW t61 (
            ncQ t11 fun t64 =>
            fa1 t64 0 fun t65 =>
            iaA 8 1 t65 t4 fun t66 =>
            ld1 w t66 fun t67 =>
            semW Tryz.prog (muS 112 t67 t51 (.bool true)) w fun _ w =>
            k_3 w
          ) (
            k_3 w
          )
        )
      ) fun w =>
      binQ Tryz.prog w .add 3 true t6 (.int .i64 1) fun t35_2 =>
      next_3 t35_2 w
    ) (
      binQ Tryz.prog w .add 3 true t5 (.int .i64 1) fun t31 =>
      next_2 t31 w
    )

def S46L1 (t0 t4 t11 : Value) (next : Value → World → Prop) (w : World) : Prop :=
  Loop1 (.int .i64 (-72)) w fun _ t5 w next_2 =>
    binQ Tryz.prog w .leq 3 true t5 (.int .i64 72) fun t29 =>
    condW t29 (
      S46L2 t0 t4 t5 t11 next_2 w
    ) (
      binQ Tryz.prog w .add 3 true t4 (.int .i64 1) fun t15 =>
      next t15 w
    )

def S46L0 (t0 t11 : Value) (R : Ending → World → Prop) (w : World) : Prop :=
  Loop1 (.int .i64 4) w fun _ t4 w next =>
    binQ Tryz.prog w .lss 3 true t4 (.int .i64 8) fun t13 =>
    condW t13 (
      Drew w fun w =>
      Join (fun (k_2 : World → Prop) =>
        ∃ X : Nat → Prop,
        takeX X w (fun w k => k t11) fun t16 =>
        takeX X w (fun w k => k t4) fun t17 =>
        takeX X w (fun w k => k t11) fun t18 =>
        takeX X w (fun w k => k t4) fun t19 =>
        takeX X w (fun w k => ncQ t16 k) fun t22 =>
        takeX X w (fun w k => fa1 t22 0 k) fun t23 =>
        takeX X w (fun w k => ncQ t18 k) fun t25 =>
        takeX X w (fun w k => fa1 t25 8 k) fun t26 =>
        And (
          mmW w <| keepX X w fun t20 w =>
          takeX X w (fun w k => iaA 8 1 t23 t17 k) fun t24 =>
          And (
            mmW w <| keepX X w fun t21 w =>
            stW Tryz.prog 112 t24 t20 w <| keepW X w fun w =>
            takeX X w (fun w k => iaA 8 1 t26 t19 k) fun t27 =>
            stW Tryz.prog 112 t27 t21 w fun w =>
            k_2  w
          ) <|
          And (
            stW Tryz.prog 112 t24 t20 w <| keepW X w fun w =>
            mmW w <| keepX X w fun t21_2 w =>
            takeX X w (fun w k => iaA 8 1 t26 t19 k) fun t27_2 =>
            stW Tryz.prog 112 t27_2 t21_2 w fun w =>
            k_2  w
          ) <|
          True
        ) <|
        And (
          mmW w <| keepX X w fun t21_3 w =>
          mmW w <| keepX X w fun t20_2 w =>
          takeX X w (fun w k => iaA 8 1 t23 t17 k) fun t24_2 =>
          stW Tryz.prog 112 t24_2 t20_2 w <| keepW X w fun w =>
          takeX X w (fun w k => iaA 8 1 t26 t19 k) fun t27_3 =>
          stW Tryz.prog 112 t27_3 t21_3 w fun w =>
          k_2  w
        ) <|
        True
      ) fun  w =>
      S46L1 t0 t4 t11 next w
    ) (
      R (.returned t11) w
    )



def S46 (t0 : Value) (w : World) (R : Ending → World → Prop) : Prop :=
  bdQ Tryz.prog 115 [] fun t10 =>
  boxW 115 t10 w fun t11 w =>
  S46L0 t0 t11 R w

def A46 : Ann where
  live := fun
    | 0 => [4]
    | 2 => [5]
    | 4 => [6]
    | _ => []
  wr := fun
    | 0 => fun i => (Nat.ble 4 i && Nat.ble i 9) || (Nat.ble 12 i && Nat.ble i 68)
    | 2 => fun i => (Nat.ble 5 i && Nat.ble i 9) || (Nat.ble 28 i && Nat.ble i 68)
    | 4 => fun i => (Nat.ble 6 i && Nat.ble i 9) || (Nat.ble 32 i && Nat.ble i 68)
    | _ => fun _ => false
  sched := fun
    | 5 => (.cls (.take 0 (.take 1 (.take 2 (.take 3 (.take 6 (.take 7 (.take 10 (.take 11 (.alt 4 (.take 8 (.alt 5 (.eff 9 (.take 12 (.bar 13 .done))) (.alt 9 (.eff 5 (.take 12 (.bar 13 .done))) .nomore))) (.alt 5 (.eff 4 (.take 8 (.eff 9 (.take 12 (.bar 13 .done))))) .nomore)))))))))))
    | _ => .done

set_option maxRecDepth 100000 in
theorem ok46 : (codeOk Tryz.f46.ntmps A46 (Tryz.f46.body.getD .skip) 0 && Nat.ble 1 Tryz.f46.ntmps) = true := by kernel_rfl
set_option maxRecDepth 100000 in
theorem lift46 {t0 : Value} {w : World} {R : Ending → World → Prop} (h : S46 t0 w R) : Calls Tryz.prog 46 #[t0] w R :=
  calls_of_cw (fn := Tryz.f46) (c := Tryz.f46.body.getD .skip) A46 mixes Tryz.func46 (by kernel_rfl) ok46
    ((by kernel_rfl : (S46 t0 w R) = cw Tryz.prog A46 (Tryz.f46.body.getD .skip) 0 (bodyQ Tryz.prog Tryz.f46 R) (frOf #[t0]) w).mp h)

def S47L0 (t9 t10 : Value) (R : Ending → World → Prop) (w : World) : Prop :=
  Loop2 (.int .i64 1) (.int .i64 0) w fun _ t3 t11 w next =>
    binQ Tryz.prog w .lss 3 false t11 t10 fun t12 =>
    condW t12 (
      iaS 6 t9 t11 fun t13 =>
      ldN 6 w t13 fun t14 =>
      boxW 71 (.agg #[(.int .i64 0), (.int .i64 0), (.int .i64 0), (.int .i64 0), (.int .i64 0), (.int .i64 0)]) w fun t5 w =>
      stW Tryz.prog 71 t5 t14 w fun w =>
      ldN 6 w t5 fun t15 =>
      callW Tryz.prog (.func (.func 77) #[] #[]) [t15] w fun t16 w =>
      binQ Tryz.prog w .eql 3 true t16 (.int .i64 1) fun t18 =>
      Join (fun (k_3 : Value → World → Prop) =>
        condW t18 (
          k_3 t18 w
        ) (
          binQ Tryz.prog w .eql 3 true t16 (.int .i64 3) fun t19 =>
          k_3 t19 w
        )
      ) fun t17 w =>
      condW t17 (
        R (.returned (.int .i64 4)) w
      ) (
        binQ Tryz.prog w .eql 3 true t16 (.int .i64 2) fun t21_2 =>
        Join (fun (k_4 : Value → World → Prop) =>
          condW t21_2 (
            k_4 (.int .i64 2) w
          ) (
            k_4 t3 w
          )
        ) fun t3_3 w =>
        binQ Tryz.prog w .add 3 true t11 (.int .i64 1) fun t22_4 =>
        next t3_3 t22_4 w
      )
    ) (
      R (.returned t3) w
    )



def S47 (t0 : Value) (w : World) (R : Ending → World → Prop) : Prop :=
  ncQ t0 fun t7 =>
  fa1 t7 3 fun t8 =>
  ld1 w t8 fun t9 =>
  ln1 t9 fun t10 =>
  S47L0 t9 t10 R w

def A47 : Ann where
  live := fun
    | 0 => [3, 11]
    | _ => []
  wr := fun
    | 0 => fun i => (Nat.ble 2 i && Nat.ble i 3) || Nat.beq i 5 || (Nat.ble 11 i && Nat.ble i 22)
    | _ => fun _ => false
  sched := fun _ => .done

set_option maxRecDepth 100000 in
theorem ok47 : (codeOk Tryz.f47.ntmps A47 (Tryz.f47.body.getD .skip) 0 && Nat.ble 1 Tryz.f47.ntmps) = true := by kernel_rfl
set_option maxRecDepth 100000 in
theorem lift47 {t0 : Value} {w : World} {R : Ending → World → Prop} (h : S47 t0 w R) : Calls Tryz.prog 47 #[t0] w R :=
  calls_of_cw (fn := Tryz.f47) (c := Tryz.f47.body.getD .skip) A47 mixes Tryz.func47 (by kernel_rfl) ok47
    ((by kernel_rfl : (S47 t0 w R) = cw Tryz.prog A47 (Tryz.f47.body.getD .skip) 0 (bodyQ Tryz.prog Tryz.f47 R) (frOf #[t0]) w).mp h)

def S48L0 (t0 : Value) (R : Ending → World → Prop) (w : World) : Prop :=
  Loop1 (.int .i64 4) w fun _ t3 w next =>
    binQ Tryz.prog w .lss 3 true t3 (.int .i64 8) fun t5 =>
    condW t5 (
      ncQ t0 fun t10 =>
      fa1 t10 8 fun t11 =>
      iaA 8 1 t11 t3 fun t12 =>
      ld1 w t12 fun t13 =>
      lnM w t13 fun t14 =>
      binQ Tryz.prog w .gtr 3 true t14 (.int .i64 0) fun t15 =>
      condW t15 (
        R (.returned (.bool true)) w
      ) (
        binQ Tryz.prog w .add 3 true t3 (.int .i64 1) fun t7 =>
        next t7 w
      )
    ) (
      R (.returned (.bool false)) w
    )



def S48 (t0 : Value) (w : World) (R : Ending → World → Prop) : Prop :=
  S48L0 t0 R w

def A48 : Ann where
  live := fun
    | 0 => [3]
    | _ => []
  wr := fun
    | 0 => fun i => (Nat.ble 2 i && Nat.ble i 15)
    | _ => fun _ => false
  sched := fun _ => .done

set_option maxRecDepth 100000 in
theorem ok48 : (codeOk Tryz.f48.ntmps A48 (Tryz.f48.body.getD .skip) 0 && Nat.ble 1 Tryz.f48.ntmps) = true := by kernel_rfl
set_option maxRecDepth 100000 in
theorem lift48 {t0 : Value} {w : World} {R : Ending → World → Prop} (h : S48 t0 w R) : Calls Tryz.prog 48 #[t0] w R :=
  calls_of_cw (fn := Tryz.f48) (c := Tryz.f48.body.getD .skip) A48 mixes Tryz.func48 (by kernel_rfl) ok48
    ((by kernel_rfl : (S48 t0 w R) = cw Tryz.prog A48 (Tryz.f48.body.getD .skip) 0 (bodyQ Tryz.prog Tryz.f48 R) (frOf #[t0]) w).mp h)

def S49L1 (t0 t1 t2 t6 : Value) (next : Value → World → Prop) (w : World) : Prop :=
  Loop1 (.int .i64 (-12)) w fun _ t7 w next_2 =>
    binQ Tryz.prog w .leq 3 true t7 (.int .i64 12) fun t14 =>
    condW t14 (
      iaA 8 6 (.pointer (some ⟨0, 0, none⟩)) t1 fun t18 =>
      ldN 6 w t18 fun t19 =>
      boxW 71 (.agg #[(.int .i64 0), (.int .i64 0), (.int .i64 0), (.int .i64 0), (.int .i64 0), (.int .i64 0)]) w fun t8 w =>
      stW Tryz.prog 71 t8 t19 w fun w =>
      fa1 t8 4 fun t22 =>
      stW Tryz.prog 3 t22 t6 w fun w =>
      fa1 t8 5 fun t23 =>
      stW Tryz.prog 3 t23 t7 w fun w =>
      ldN 6 w t8 fun t35 =>
      callW Tryz.prog (.func (.func 75) #[] #[]) [t0, t1, t35] w fun t36 w =>
      unQ .not t36 fun t37 =>
      Join (fun (k_2 : World → Prop) =>
        condW t37 (
          k_2 w
        ) (
          binQ Tryz.prog w .eql 3 true t1 (.int .i64 2) fun t40 =>
          condW t40 (
            callW Tryz.prog t2 [t6, t7] w fun t44 w =>
            k_2 w
          ) (
            binQ Tryz.prog w .sub 3 false t6 t7 fun t27 =>
            binQ Tryz.prog w .add 3 false t6 t7 fun t30 =>
            callW Tryz.prog t2 [t27, t30] w fun t31 w =>
            k_2 w
          )
        )
      ) fun w =>
      binQ Tryz.prog w .add 3 true t7 (.int .i64 1) fun t16_2 =>
      next_2 t16_2 w
    ) (
      binQ Tryz.prog w .add 3 true t6 (.int .i64 1) fun t12 =>
      next t12 w
    )

def S49L0 (t0 t1 t2 : Value) (R : Ending → World → Prop) (w : World) : Prop :=
  Loop1 (.int .i64 (-12)) w fun _ t6 w next =>
    binQ Tryz.prog w .leq 3 true t6 (.int .i64 12) fun t10 =>
    condW t10 (
      S49L1 t0 t1 t2 t6 next w
    ) (
      R (.returned (.tuple #[])) w
    )



def S49 (t0 t1 t2 : Value) (w : World) (R : Ending → World → Prop) : Prop :=
  S49L0 t0 t1 t2 R w

def A49 : Ann where
  live := fun
    | 0 => [6]
    | 2 => [7]
    | _ => []
  wr := fun
    | 0 => fun i => (Nat.ble 6 i && Nat.ble i 44)
    | 2 => fun i => (Nat.ble 7 i && Nat.ble i 8) || (Nat.ble 13 i && Nat.ble i 44)
    | _ => fun _ => false
  sched := fun _ => .done

set_option maxRecDepth 100000 in
theorem ok49 : (codeOk Tryz.f49.ntmps A49 (Tryz.f49.body.getD .skip) 0 && Nat.ble 3 Tryz.f49.ntmps) = true := by kernel_rfl
set_option maxRecDepth 100000 in
theorem lift49 {t0 t1 t2 : Value} {w : World} {R : Ending → World → Prop} (h : S49 t0 t1 t2 w R) : Calls Tryz.prog 49 #[t0, t1, t2] w R :=
  calls_of_cw (fn := Tryz.f49) (c := Tryz.f49.body.getD .skip) A49 mixes Tryz.func49 (by kernel_rfl) ok49
    ((by kernel_rfl : (S49 t0 t1 t2 w R) = cw Tryz.prog A49 (Tryz.f49.body.getD .skip) 0 (bodyQ Tryz.prog Tryz.f49 R) (frOf #[t0, t1, t2]) w).mp h)

def S50 (t0 t1 t2 t3 t4 : Value) (w : World) (R : Ending → World → Prop) : Prop :=
  ld1 w t2 fun t7 =>
  callW Tryz.prog (.func (.func 51) #[] #[]) [t7, t0, t1] w fun t10 w =>
  condW t10 (
    stW Tryz.prog 4 t3 (.bool false) w fun w =>
    R (.returned (.tuple #[])) w
  ) (
    stW Tryz.prog 4 t4 (.bool false) w fun w =>
    R (.returned (.tuple #[])) w
  )

def A50 : Ann where
  live := fun _ => []
  wr := fun _ _ => false
  sched := fun _ => .done

set_option maxRecDepth 100000 in
theorem ok50 : (codeOk Tryz.f50.ntmps A50 (Tryz.f50.body.getD .skip) 0 && Nat.ble 5 Tryz.f50.ntmps) = true := by kernel_rfl
set_option maxRecDepth 100000 in
theorem lift50 {t0 t1 t2 t3 t4 : Value} {w : World} {R : Ending → World → Prop} (h : S50 t0 t1 t2 t3 t4 w R) : Calls Tryz.prog 50 #[t0, t1, t2, t3, t4] w R :=
  calls_of_cw (fn := Tryz.f50) (c := Tryz.f50.body.getD .skip) A50 mixes Tryz.func50 (by kernel_rfl) ok50
    ((by kernel_rfl : (S50 t0 t1 t2 t3 t4 w R) = cw Tryz.prog A50 (Tryz.f50.body.getD .skip) 0 (bodyQ Tryz.prog Tryz.f50 R) (frOf #[t0, t1, t2, t3, t4]) w).mp h)

def S51 (t0 t1 t2 : Value) (w : World) (R : Ending → World → Prop) : Prop :=
  ncQ t0 fun t8 =>
  fa1 t8 0 fun t9 =>
  iaA 8 1 t9 (.int .i64 4) fun t10 =>
  ld1 w t10 fun t11 =>
  semW Tryz.prog (lkS 112 t11 t2 false) w fun t13 w =>
  gd t13 false (fun k => k t0 w) w fun t15 w =>
  gd t13 false (fun k => ncQ t15 fun v => k v w) w fun t16 w =>
  gd t13 false (fun k => fa1 t16 0 fun v => k v w) w fun t17 w =>
  gd t13 false (fun k => iaA 8 1 t17 (.int .i64 5) fun v => k v w) w fun t18 w =>
  gd t13 false (fun k => ld1 w t18 fun v => k v w) w fun t19 w =>
  gd t13 false (fun k => k t1 w) w fun t20 w =>
  gd t13 false (fun k => semW Tryz.prog (lkS 112 t19 t20 false) w k) w fun t21 w =>
  pickQ t13 (.bool true) t21 fun t22 =>
  gd t22 false (fun k => k t0 w) w fun t24 w =>
  gd t22 false (fun k => ncQ t24 fun v => k v w) w fun t25 w =>
  gd t22 false (fun k => fa1 t25 0 fun v => k v w) w fun t26 w =>
  gd t22 false (fun k => iaA 8 1 t26 (.int .i64 6) fun v => k v w) w fun t27 w =>
  gd t22 false (fun k => ld1 w t27 fun v => k v w) w fun t28 w =>
  gd t22 false (fun k => k t1 w) w fun t29 w =>
  gd t22 false (fun k => k t2 w) w fun t30 w =>
  gd t22 false (fun k => binQ Tryz.prog w .sub 3 false t29 t30 fun v => k v w) w fun t31 w =>
  gd t22 false (fun k => semW Tryz.prog (lkS 112 t28 t31 false) w k) w fun t32 w =>
  pickQ t22 (.bool true) t32 fun t33 =>
  gd t33 false (fun k => k t0 w) w fun t35 w =>
  gd t33 false (fun k => ncQ t35 fun v => k v w) w fun t36 w =>
  gd t33 false (fun k => fa1 t36 0 fun v => k v w) w fun t37 w =>
  gd t33 false (fun k => iaA 8 1 t37 (.int .i64 7) fun v => k v w) w fun t38 w =>
  gd t33 false (fun k => ld1 w t38 fun v => k v w) w fun t39 w =>
  gd t33 false (fun k => k t1 w) w fun t40 w =>
  gd t33 false (fun k => k t2 w) w fun t41 w =>
  gd t33 false (fun k => binQ Tryz.prog w .add 3 false t40 t41 fun v => k v w) w fun t42 w =>
  gd t33 false (fun k => semW Tryz.prog (lkS 112 t39 t42 false) w k) w fun t43 w =>
  pickQ t33 (.bool true) t43 fun t44 =>
  R (.returned t44) w

def A51 : Ann where
  live := fun _ => []
  wr := fun _ _ => false
  sched := fun _ => .done

set_option maxRecDepth 100000 in
theorem ok51 : (codeOk Tryz.f51.ntmps A51 (Tryz.f51.body.getD .skip) 0 && Nat.ble 3 Tryz.f51.ntmps) = true := by kernel_rfl
set_option maxRecDepth 100000 in
theorem lift51 {t0 t1 t2 : Value} {w : World} {R : Ending → World → Prop} (h : S51 t0 t1 t2 w R) : Calls Tryz.prog 51 #[t0, t1, t2] w R :=
  calls_of_cw (fn := Tryz.f51) (c := Tryz.f51.body.getD .skip) A51 mixes Tryz.func51 (by kernel_rfl) ok51
    ((by kernel_rfl : (S51 t0 t1 t2 w R) = cw Tryz.prog A51 (Tryz.f51.body.getD .skip) 0 (bodyQ Tryz.prog Tryz.f51 R) (frOf #[t0, t1, t2]) w).mp h)

def S52L0 (t0 : Value) (R : Ending → World → Prop) (w : World) : Prop :=
  Loop2 (.int .i64 0) (.int .i64 4) w fun _ t3 t4 w next =>
    binQ Tryz.prog w .lss 3 true t4 (.int .i64 8) fun t6 =>
    condW t6 (
      ncQ t0 fun t11 =>
      fa1 t11 0 fun t12 =>
      iaA 8 1 t12 t4 fun t13 =>
      ld1 w t13 fun t14 =>
      lnM w t14 fun t15 =>
      binQ Tryz.prog w .gtr 3 true t15 (.int .i64 0) fun t16 =>
      Join (fun (k_2 : Value → World → Prop) =>
        condW t16 (
          binQ Tryz.prog w .add 3 true t3 (.int .i64 1) fun t18 =>
          k_2 t18 w
        ) (
          k_2 t3 w
        )
      ) fun t3_2 w =>
      binQ Tryz.prog w .add 3 true t4 (.int .i64 1) fun t8_2 =>
      next t3_2 t8_2 w
    ) (
      R (.returned t3) w
    )



def S52 (t0 : Value) (w : World) (R : Ending → World → Prop) : Prop :=
  S52L0 t0 R w

def A52 : Ann where
  live := fun
    | 0 => [3, 4]
    | _ => []
  wr := fun
    | 0 => fun i => (Nat.ble 3 i && Nat.ble i 18)
    | _ => fun _ => false
  sched := fun _ => .done

set_option maxRecDepth 100000 in
theorem ok52 : (codeOk Tryz.f52.ntmps A52 (Tryz.f52.body.getD .skip) 0 && Nat.ble 1 Tryz.f52.ntmps) = true := by kernel_rfl
set_option maxRecDepth 100000 in
theorem lift52 {t0 : Value} {w : World} {R : Ending → World → Prop} (h : S52 t0 w R) : Calls Tryz.prog 52 #[t0] w R :=
  calls_of_cw (fn := Tryz.f52) (c := Tryz.f52.body.getD .skip) A52 mixes Tryz.func52 (by kernel_rfl) ok52
    ((by kernel_rfl : (S52 t0 w R) = cw Tryz.prog A52 (Tryz.f52.body.getD .skip) 0 (bodyQ Tryz.prog Tryz.f52 R) (frOf #[t0]) w).mp h)

theorem fok27 : fnOk Tryz.prog 27 = true := by kernel_rfl
theorem fok46 : fnOk Tryz.prog 46 = true := by kernel_rfl
theorem fok47 : fnOk Tryz.prog 47 = true := by kernel_rfl
theorem fok48 : fnOk Tryz.prog 48 = true := by kernel_rfl
theorem fok49 : fnOk Tryz.prog 49 = true := by kernel_rfl
theorem fok50 : fnOk Tryz.prog 50 = true := by kernel_rfl
theorem fok51 : fnOk Tryz.prog 51 = true := by kernel_rfl
theorem fok52 : fnOk Tryz.prog 52 = true := by kernel_rfl
end Go.Proofs.YtfmppkplmfbjpaaGreatDoor

/- Contracts of pattern: kind, line, order. -/
namespace Go.Proofs.YtfmppkplmfbjpaaGreatDoor
open Go.Lf Go.RowKit Go.Ht Go.Pt

theorem kinds_inj : ∀ i, i < 8 → ∀ j, j < 8 → kindsL.getD i (0, 0, 0, 0) = kindsL.getD j (0, 0, 0, 0) → i = j := by decide
theorem mvK_inj {i j : Nat} {e f e' f' : Int} (hi : i < 8) (hj : j < 8) (h : mvK i e f = mvK j e' f') : i = j := by
  unfold mvK at h
  simp only [Prod.mk.injEq] at h
  obtain ⟨h1, h2, h3, h4, _⟩ := h
  refine kinds_inj i hi j hj ?_
  exact Prod.ext h1 (Prod.ext h2 (Prod.ext h3 h4))
set_option maxRecDepth 100000 in
theorem r_eqK {i j : Nat} (hi : i < 8) (hj : j < 8) {w : World} {K : Value → Prop} (h : K (.bool (decide (i = j)))) : binQ Tryz.prog w .eql 71 false (mvV (mvK i 0 0)) (mvV (mvK j 0 0)) K := by
  refine ⟨.bool (decide (i = j)), fun w' _ => ?_, h⟩
  rcases i8 hi with rfl | rfl | rfl | rfl | rfl | rfl | rfl | rfl <;> rcases i8 hj with rfl | rfl | rfl | rfl | rfl | rfl | rfl | rfl <;> kernel_rfl

set_option maxRecDepth 100000 in
theorem idxM_calls {w : World} (hk : Wk w) {i : Nat} (hi : i < 8) {c : Nat} : Calls Tryz.prog 93 #[.slice (some ⟨0, 0, none⟩) 8 c, mvV (mvK i 0 0)] w fun e w' => e = .returned (.int .i64 i) ∧ Kp w w' := by
  refine lift93 ?_
  unfold S93
  refine r_box fun b w1 e1 s1 h1 k1 => ?_
  rw [r_ln]
  unfold S93L0
  refine ⟨fun t8 wr => ∃ j : Nat, j ≤ i ∧ t8 = .int .i64 j ∧ Kp w1 wr, fun t8 _ => 8 - (intOf t8).toNat, ⟨0, by omega, rfl, Kp.refl _⟩, ?_⟩
  rintro _ _ wr ⟨j, hj, rfl, kr⟩
  have hlt' : (j : Int) < ((8 : Nat) : Int) := by omega
  rw [r_lss, decide_eq_true hlt', r_condT]
  refine r_drew fun w2 k2 _ => ?_
  have k12 := Kp.trans kr k2
  have hjj : (j : Int).toNat = j := by omega
  rw [mv_ld (block_below h1 k12), r_iaS _ _ _ _ _ _ _ (by omega) (by omega), hjj, Nat.zero_add]
  have ld : ∀ K : Value → Prop, ldN 6 w2 (.pointer (some ⟨0, j * 6, none⟩)) K = K (mvV (mvK j 0 0)) := fun K => by
    have := (hk.kp (Kp.trans k1 k12)).one (i := j) (by omega) K
    rwa [r_iaA _ _ _ _ _ _ (by omega) (by omega), hjj, Nat.zero_add] at this
  rw [ld]
  refine r_eqK hi (by omega) ?_
  by_cases e : i = j
  · subst e
    rw [decide_eq_true rfl, r_condT]
    exact ⟨rfl, Kp.trans k1 k12⟩
  · rw [decide_eq_false e, r_condF, r_add _ _ (by omega) (by omega)]
    exact ⟨⟨j + 1, by omega, by go_num, k12⟩, by simp only [intOf]; omega⟩

theorem r_slAll (K : Value → Prop) : slA 8 6 (.pointer (some ⟨0, 0, none⟩)) none none K = K (.slice (some ⟨0, 0, none⟩) 8 8) := by
  simp [slA, cutQ, bnd, r_addr]
set_option maxRecDepth 100000 in
theorem kind_calls {w : World} (hk : Wk w) {i : Nat} (hi : i < 8) (e f : Int) : Calls Tryz.prog 77 #[mvV (mvK i e f)] w fun r w' => r = .returned (.int .i64 i) ∧ Kp w w' := by
  refine lift77 ?_
  unfold S77
  refine r_box fun b w1 e1 s1 h1 k1 => ?_
  obtain ⟨_, _, _, _, q4, _⟩ := mv_cells h1
  rw [r_fa, Nat.zero_add, st3 q4 (frozen_row h1)]
  have h3 : (w1.setCell ⟨b, 4, none⟩ (.int .i64 0)).heap[b]? = some (.cells (mvV (mvK i 0 f)).cells 71 (0, 0)) := setCell_block h1 rfl
  have c3 : Chg (fun k => k = b) w1 (w1.setCell ⟨b, 4, none⟩ (.int .i64 0)) := Chg.setCell _ _ rfl
  generalize w1.setCell ⟨b, 4, none⟩ (.int .i64 0) = w3 at *
  obtain ⟨_, _, _, _, _, q5⟩ := mv_cells h3
  rw [r_fa, Nat.zero_add, st3 q5 (frozen_row h3)]
  have h4 : (w3.setCell ⟨b, 5, none⟩ (.int .i64 0)).heap[b]? = some (.cells (mvV (mvK i 0 0)).cells 71 (0, 0)) := setCell_block h3 rfl
  have c4 : Chg (fun k => k = b) w3 (w3.setCell ⟨b, 5, none⟩ (.int .i64 0)) := Chg.setCell _ _ rfl
  generalize w3.setCell ⟨b, 5, none⟩ (.int .i64 0) = w4 at *
  have k4 : Kp w w4 := Kp.of_chg k1 (c3.trans c4) fun q hq => by omega
  refine r_drew fun w5 k5 _ => ?_
  have k05 := Kp.trans k4 k5
  have ld : ∀ K : Value → Prop, ldN 6 w5 (.pointer (some ⟨b, 0, none⟩)) K = K (mvV (mvK i 0 0)) := fun K => r_ldRow (block_below h4 k5) rfl
  rw [r_slAll, ld]
  refine r_use fok93 (idxM_calls (hk.kp k05) hi) rfl ?_
  rintro _ w6 ⟨rfl, k6⟩
  exact ⟨_, rfl, rfl, Kp.trans k05 k6⟩

/-- Twice the place of a mirrored move's line, and how far it goes along it. -/
def lineM (i : Nat) (e f : Int) : Int × Int := if i = 4 then (f, e) else if i = 5 then (e, f) else if i = 6 then (e - f, e + f) else (e + f, e - f)
set_option maxRecDepth 100000 in
theorem line_calls {w : World} (hk : Wk w) {i : Nat} (hi : i < 8) {e f : Int} (he : -200 ≤ e ∧ e ≤ 200) (hf : -200 ≤ f ∧ f ≤ 200) : Calls Tryz.prog 76 #[mvV (mvK i e f)] w fun r w' => r = .returned (.tuple #[.int .i64 (lineM i e f).1, .int .i64 (lineM i e f).2]) ∧ Kp w w' := by
  refine lift76 ?_
  unfold S76
  refine r_box fun b w1 e1 s1 h1 k1 => ?_
  have ld : ∀ K : Value → Prop, ldN 6 w1 (.pointer (some ⟨b, 0, none⟩)) K = K (mvV (mvK i e f)) := fun K => r_ldRow h1 rfl
  rw [ld]
  refine r_use fok77 (kind_calls (hk.kp k1) hi e f) rfl ?_
  rintro _ w2 ⟨rfl, k2⟩
  refine ⟨_, rfl, ?_⟩
  have k02 := Kp.trans k1 k2
  have fin : ∀ w3 : World, Kp w2 w3 → w3.cell? ⟨b, 4, none⟩ = some (.int .i64 e) ∧ w3.cell? ⟨b, 5, none⟩ = some (.int .i64 f) := fun w3 k3 => by
    obtain ⟨_, _, _, _, q4, q5⟩ := mv_cells (block_below h1 (Kp.trans k2 k3))
    exact ⟨q4, q5⟩
  unfold lineM
  by_cases h4 : i = 4
  · rw [r_eql, decide_eq_true (by omega : (i : Int) = 4), r_condT, if_pos h4]
    refine r_drew fun w3 k3 _ => ?_
    obtain ⟨q4, q5⟩ := fin w3 k3
    simp only [r_fa, Nat.zero_add, r_ld q4, r_ld q5]
    exact ⟨by first | rfl | trivial, Kp.trans k02 k3⟩
  rw [r_eql, decide_eq_false (by omega : ¬ (i : Int) = 4), r_condF, if_neg h4]
  by_cases h5 : i = 5
  · rw [r_eql, decide_eq_true (by omega : (i : Int) = 5), r_condT, if_pos h5]
    refine r_drew fun w3 k3 _ => ?_
    obtain ⟨q4, q5⟩ := fin w3 k3
    simp only [r_fa, Nat.zero_add, r_ld q4, r_ld q5]
    exact ⟨by first | rfl | trivial, Kp.trans k02 k3⟩
  rw [r_eql, decide_eq_false (by omega : ¬ (i : Int) = 5), r_condF, if_neg h5]
  by_cases h6 : i = 6
  · rw [r_eql, decide_eq_true (by omega : (i : Int) = 6), r_condT, if_pos h6]
    refine r_drew fun w3 k3 _ => ?_
    obtain ⟨q4, q5⟩ := fin w3 k3
    simp (disch := omega) only [r_fa, Nat.zero_add, r_ld q4, r_ld q5, r_sub, r_add]
    exact ⟨by first | rfl | trivial, Kp.trans k02 k3⟩
  rw [r_eql, decide_eq_false (by omega : ¬ (i : Int) = 6), r_condF, if_neg h6]
  refine r_drew fun w3 k3 _ => ?_
  obtain ⟨q4, q5⟩ := fin w3 k3
  simp (disch := omega) only [r_fa, Nat.zero_add, r_ld q4, r_ld q5, r_sub, r_add]
  exact ⟨by first | rfl | trivial, Kp.trans k02 k3⟩

theorem mv_at {w : World} {v : Value} {P : List Mv} (h : Rd 6 mvC w v P) {i : Nat} {x : Mv} (hi : P[i]? = some x) (K : Value → Prop) : (iaS 6 v (.int .i64 i) fun p => ldN 6 w p K) = K (mvV x) := by
  obtain ⟨b, off, cap, e, hlt, hc⟩ := h.at hi
  have hii : (i : Int).toNat = i := by omega
  rw [e, r_iaS _ _ _ _ _ _ _ (by omega) (by omega), hii, r_ldCells (n := 6) (l := mvC x) rfl hc]
  rfl

/-- Moves of the eight kinds, not too far. -/
def MvAll (P : List Mv) : Prop := ∀ m ∈ P, ∃ i e f : Nat, i < 8 ∧ e < 6 ∧ f < 6 ∧ m = mvK i e f

set_option maxRecDepth 100000 in
theorem order_calls {w : World} (hk : Wk w) {bg A B D : Nat} {vs : Value} {own : Nat → Bool} {P : List Mv} {base : Nat} (h : GrAt base w bg A B D vs P own) (hP : MvAll P) (hl : P.length ≤ 300) {e0 f0 : Int} (h1 : mvK 1 e0 f0 ∈ P) :
    Calls Tryz.prog 47 #[ptrV bg] w fun r w' => r = .returned (.int .i64 4) ∧ Kp w w' := by
  refine lift47 ?_
  unfold S47
  obtain ⟨_, _, _, c3, _⟩ := h.c.cells
  have hr := h.r.rd mvC_len
  obtain ⟨a, cap, ev, _⟩ := hr.len
  have lnv : ∀ K : Value → Prop, ln1 vs K = K (.int .i64 P.length) := fun K => by rw [ev]; rfl
  rw [r_nc, r_fa, Nat.zero_add, r_ld c3, lnv]
  unfold S47L0
  refine ⟨fun t3 t11 wr => ∃ j : Nat, j ≤ P.length ∧ t11 = .int .i64 j ∧ (∀ q, q < j → ∀ m, P[q]? = some m → m ≠ mvK 1 e0 f0) ∧ Kp w wr, fun _ t11 _ => P.length - (intOf t11).toNat, ⟨0, by omega, rfl, fun q hq => by omega, Kp.refl _⟩, ?_⟩
  rintro _ t3 _ wr ⟨j, hj, rfl, hno, kr⟩
  by_cases hlt : j < P.length
  case neg =>
    exfalso
    obtain ⟨q, hq, e⟩ := List.getElem_of_mem h1
    exact hno q (by omega) _ (List.getElem?_eq_getElem hq) e
  have hlt' : (j : Int) < (P.length : Int) := by omega
  obtain ⟨m, hm⟩ : ∃ m, P[j]? = some m := ⟨_, List.getElem?_eq_getElem hlt⟩
  obtain ⟨i, e, f, hi, he, hf, rfl⟩ := hP m (List.mem_of_getElem? hm)
  rw [r_lss, decide_eq_true hlt', r_condT, mv_at (hr.kp kr) hm]
  refine r_box fun b w1 e1 s1 h1' k1 => ?_
  refine st_mv h1' rfl fun w2 c2 s2 h2 => ?_
  have k2 : Kp wr w2 := Kp.of_chg k1 c2 fun q hq => by omega
  have ld : ∀ K : Value → Prop, ldN 6 w2 (.pointer (some ⟨b, 0, none⟩)) K = K (mvV (mvK i e f)) := fun K => r_ldRow h2 rfl
  rw [ld]
  refine r_use fok77 (kind_calls (hk.kp (Kp.trans kr k2)) hi e f) rfl ?_
  rintro _ w3 ⟨rfl, k3⟩
  refine ⟨_, rfl, ?_⟩
  have k03 := Kp.trans (Kp.trans kr k2) k3
  rw [r_eql]
  refine r_join1 (fun v w' => v = .bool (decide ((i : Int) = 1) || decide ((i : Int) = 3)) ∧ SameW w3 w') ?_ fun k' hk' => ?_
  rotate_left
  · by_cases e1 : (i : Int) = 1
    · rw [decide_eq_true e1, r_condT]
      exact hk' _ _ ⟨by rw [decide_eq_true e1]; rfl, rfl⟩
    · rw [decide_eq_false e1, r_condF, r_eql]
      exact hk' _ _ ⟨by rw [decide_eq_false e1]; rfl, rfl⟩
  rintro _ _ ⟨rfl, rfl⟩
  by_cases h13 : (i : Int) = 1 ∨ (i : Int) = 3
  · have : (decide ((i : Int) = 1) || decide ((i : Int) = 3)) = true := by simpa using h13
    rw [this, r_condT]
    exact ⟨rfl, k03⟩
  · have : (decide ((i : Int) = 1) || decide ((i : Int) = 3)) = false := by simpa using h13
    rw [this, r_condF, r_eql]
    have hstep : ∀ q, q < j + 1 → ∀ m, P[q]? = some m → m ≠ mvK 1 e0 f0 := fun q hq m hmq => by
      by_cases eq : q = j
      · subst eq
        rw [hm] at hmq
        cases hmq
        intro he
        have := mvK_inj hi (by omega) he
        omega
      · exact hno q (by omega) m hmq
    refine r_join1 (fun v w' => SameW w3 w') ?_ fun k' hk' => ?_
    · rintro v _ rfl
      rw [r_add _ _ (by omega) (by omega)]
      exact ⟨⟨j + 1, by omega, by go_num, hstep, k03⟩, by simp only [intOf]; omega⟩
    · cases decide ((i : Int) = 2) with
      | true => rw [r_condT]; exact hk' _ _ rfl
      | false => rw [r_condF]; exact hk' _ _ rfl

end Go.Proofs.YtfmppkplmfbjpaaGreatDoor
