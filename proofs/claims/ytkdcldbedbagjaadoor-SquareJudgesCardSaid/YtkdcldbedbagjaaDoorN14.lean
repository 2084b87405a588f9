/- Texts of my own, merged by program: Se Xa Sh. -/
import Derived.Test.YtkdcldbedbagjaaDoorN02
import Derived.Test.YtkdcldbedbagjaaDoorN13
set_option linter.all false
/- Lifted texts, printed by program (gen.py): what each function's code asks. The ties are by the kernel. -/
namespace Go.Proofs.YtkdcldbedbagjaaDoor
open Go.Lf Go.RowKit

def S35L0 (t0 t1 : Value) (R : Ending → World → Prop) (w : World) : Prop :=
  Loop5 t0 t1 (.slice none 0 0) (.int .i64 0) (.int .i64 0) w fun _ t0_2 t1_2 t6 t7 t8 w next =>
    binQ Tryd.prog w .gtr 3 true t0_2 (.int .i64 0) fun t15 =>
    gd t15 true (fun k => k t1_2 w) w fun t17 w =>
    gd t15 true (fun k => binQ Tryd.prog w .gtr 3 true t17 (.int .i64 0) fun v => k v w) w fun t18 w =>
    pickQ t15 t18 (.bool false) fun t19 =>
    condW t19 (
      ln1 t6 fun t21 =>
      binQ Tryd.prog w .eql 3 true t21 (.int .i64 16) fun t22 =>
      condW t22 (
        R (.returned (.tuple #[(.slice none 0 0), (.int .i64 8)])) w
      ) (
        mnQ false [t0_2, t1_2] fun t25 =>
        bdQ Tryd.prog 44 [(0, t7), (1, t8), (2, t25)] fun t30 =>
        bsW Tryd.prog 22 1 [(0, t30)] w fun t31 w =>
        semW Tryd.prog (apS [22, 22] 22 [t6, t31]) w fun t32 w =>
        binQ Tryd.prog w .gtr 3 false t0_2 t1_2 fun t35 =>
        condW t35 (
          binQ Tryd.prog w .add 3 false t7 t25 fun t38 =>
          binQ Tryd.prog w .sub 3 false t0_2 t25 fun t41 =>
          next t41 t1_2 t32 t38 t8 w
        ) (
          binQ Tryd.prog w .add 3 false t8 t25 fun t44 =>
          binQ Tryd.prog w .sub 3 false t1_2 t25 fun t47 =>
          next t0_2 t47 t32 t7 t44 w
        )
      )
    ) (
      R (.returned (.tuple #[t6, (.int .i64 0)])) w
    )

def S35 (t0 t1 : Value) (w : World) (R : Ending → World → Prop) : Prop :=
  callW Tryd.prog (.func (.func 44) #[] #[]) [t0, t1] w fun t12 w =>
  unQ .not t12 fun t13 =>
  condW t13 (
    R (.returned (.tuple #[(.slice none 0 0), (.int .i64 2)])) w
  ) (
    S35L0 t0 t1 R w
  )

def A35 : Ann where
  live := fun
    | 0 => [0, 1, 6, 7, 8]
    | _ => []
  wr := fun
    | 0 => fun i => (Nat.ble 0 i && Nat.ble i 1) || (Nat.ble 4 i && Nat.ble i 9) || (Nat.ble 14 i && Nat.ble i 47)
    | _ => fun _ => false
  sched := fun _ => .done

set_option maxRecDepth 100000 in
theorem ok35 : (codeOk Tryd.f35.ntmps A35 (Tryd.f35.body.getD .skip) 0 && Nat.ble 2 Tryd.f35.ntmps) = true := by kernel_rfl
set_option maxRecDepth 100000 in
theorem lift35 {t0 t1 : Value} {w : World} {R : Ending → World → Prop} (h : S35 t0 t1 w R) : Calls Tryd.prog 35 #[t0, t1] w R :=
  calls_of_cw (fn := Tryd.f35) (c := Tryd.f35.body.getD .skip) A35 mixes Tryd.func35 (by kernel_rfl) ok35
    ((by kernel_rfl : (S35 t0 t1 w R) = cw Tryd.prog A35 (Tryd.f35.body.getD .skip) 0 (bodyQ Tryd.prog Tryd.f35 R) (frOf #[t0, t1]) w).mp h)

def S44 (t0 t1 : Value) (w : World) (R : Ending → World → Prop) : Prop :=
  binQ Tryd.prog w .geq 3 true t0 (.int .i64 1) fun t6 =>
  gd t6 true (fun k => k t0 w) w fun t8 w =>
  gd t6 true (fun k => binQ Tryd.prog w .leq 3 true t8 (.int .i64 1000) fun v => k v w) w fun t9 w =>
  pickQ t6 t9 (.bool false) fun t10 =>
  gd t10 true (fun k => k t1 w) w fun t12 w =>
  gd t10 true (fun k => binQ Tryd.prog w .geq 3 true t12 (.int .i64 1) fun v => k v w) w fun t13 w =>
  pickQ t10 t13 (.bool false) fun t14 =>
  gd t14 true (fun k => k t1 w) w fun t16 w =>
  gd t14 true (fun k => binQ Tryd.prog w .leq 3 true t16 (.int .i64 1000) fun v => k v w) w fun t17 w =>
  pickQ t14 t17 (.bool false) fun t18 =>
  R (.returned t18) w

def A44 : Ann where
  live := fun _ => []
  wr := fun _ _ => false
  sched := fun _ => .done

set_option maxRecDepth 100000 in
theorem ok44 : (codeOk Tryd.f44.ntmps A44 (Tryd.f44.body.getD .skip) 0 && Nat.ble 2 Tryd.f44.ntmps) = true := by kernel_rfl
set_option maxRecDepth 100000 in
theorem lift44 {t0 t1 : Value} {w : World} {R : Ending → World → Prop} (h : S44 t0 t1 w R) : Calls Tryd.prog 44 #[t0, t1] w R :=
  calls_of_cw (fn := Tryd.f44) (c := Tryd.f44.body.getD .skip) A44 mixes Tryd.func44 (by kernel_rfl) ok44
    ((by kernel_rfl : (S44 t0 t1 w R) = cw Tryd.prog A44 (Tryd.f44.body.getD .skip) 0 (bodyQ Tryd.prog Tryd.f44 R) (frOf #[t0, t1]) w).mp h)

def S8 (t0 t1 : Value) (w : World) (R : Ending → World → Prop) : Prop :=
  callW Tryd.prog (.func (.func 34) #[] #[]) [t0, t1] w fun t12 w =>
  exQ t12 0 fun t13 =>
  exQ t12 1 fun t14 =>
  callW Tryd.prog (.func (.func 35) #[] #[]) [t0, t1] w fun t18 w =>
  exQ t18 0 fun t19 =>
  exQ t18 1 fun t20 =>
  callW Tryd.prog (.func (.func 20) #[] #[]) [t13, t19] w fun t23 w =>
  gd t23 true (fun k => k t14 w) w fun t25 w =>
  gd t23 true (fun k => k t20 w) w fun t26 w =>
  gd t23 true (fun k => binQ Tryd.prog w .eql 24 false t25 t26 fun v => k v w) w fun t27 w =>
  pickQ t23 t27 (.bool false) fun t28 =>
  gd t28 true (fun k => callW Tryd.prog (.func (.func 14) #[] #[]) [] w k) w fun t30 w =>
  pickQ t28 t30 (.bool false) fun t31 =>
  R (.returned t31) w

def A8 : Ann where
  live := fun _ => []
  wr := fun _ _ => false
  sched := fun _ => .done

set_option maxRecDepth 100000 in
theorem ok8 : (codeOk Tryd.f8.ntmps A8 (Tryd.f8.body.getD .skip) 0 && Nat.ble 2 Tryd.f8.ntmps) = true := by kernel_rfl
set_option maxRecDepth 100000 in
theorem lift8 {t0 t1 : Value} {w : World} {R : Ending → World → Prop} (h : S8 t0 t1 w R) : Calls Tryd.prog 8 #[t0, t1] w R :=
  calls_of_cw (fn := Tryd.f8) (c := Tryd.f8.body.getD .skip) A8 mixes Tryd.func8 (by kernel_rfl) ok8
    ((by kernel_rfl : (S8 t0 t1 w R) = cw Tryd.prog A8 (Tryd.f8.body.getD .skip) 0 (bodyQ Tryd.prog Tryd.f8 R) (frOf #[t0, t1]) w).mp h)

def S9L1 (t0 t1 t16 : Value) (R : Ending → World → Prop) (w : World) : Prop :=
  Loop2 t0 t1 w fun _ t10 t11 w next_2 =>
    binQ Tryd.prog w .neq 3 true t11 (.int .i64 0) fun t73 =>
    condW t73 (
      Drew w fun w =>
      binQ Tryd.prog w .rem 3 false t10 t11 fun t77 =>
      next_2 t11 t77 w
    ) (
      ln1 t16 fun t80 =>
      binQ Tryd.prog w .sub 3 true t80 (.int .i64 1) fun t81 =>
      iaS 3 t16 t81 fun t82 =>
      fa1 t82 2 fun t83 =>
      ld1 w t83 fun t84 =>
      binQ Tryd.prog w .eql 3 false t84 t10 fun t86 =>
      gd t86 true (fun k => callW Tryd.prog (.func (.func 14) #[] #[]) [] w k) w fun t88 w =>
      pickQ t86 t88 (.bool false) fun t89 =>
      R (.returned t89) w
    )

def S9L0 (t0 t1 t16 : Value) (R : Ending → World → Prop) (w : World) : Prop :=
  Loop1 (.int .i64 1) w fun _ t9 w next =>
    ln1 t16 fun t54 =>
    binQ Tryd.prog w .lss 3 false t9 t54 fun t55 =>
    condW t55 (
      Drew w fun w =>
      iaS 3 t16 t9 fun t60 =>
      fa1 t60 2 fun t61 =>
      ld1 w t61 fun t62 =>
      binQ Tryd.prog w .sub 3 true t9 (.int .i64 1) fun t65 =>
      iaS 3 t16 t65 fun t66 =>
      fa1 t66 2 fun t67 =>
      ld1 w t67 fun t68 =>
      binQ Tryd.prog w .gtr 3 false t62 t68 fun t69 =>
      condW t69 (
        R (.returned (.bool false)) w
      ) (
        binQ Tryd.prog w .add 3 true t9 (.int .i64 1) fun t57 =>
        next t57 w
      )
    ) (
      S9L1 t0 t1 t16 R w
    )

def S9 (t0 t1 : Value) (w : World) (R : Ending → World → Prop) : Prop :=
  callW Tryd.prog (.func (.func 34) #[] #[]) [t0, t1] w fun t15 w =>
  exQ t15 0 fun t16 =>
  exQ t15 1 fun t17 =>
  binQ Tryd.prog w .neq 24 true t17 (.int .i64 0) fun t19 =>
  condW t19 (
    binQ Tryd.prog w .eql 24 true t17 (.int .i64 2) fun t21 =>
    gd t21 false (fun k => k t17 w) w fun t23 w =>
    gd t21 false (fun k => binQ Tryd.prog w .eql 24 true t23 (.int .i64 8) fun v => k v w) w fun t24 w =>
    pickQ t21 (.bool true) t24 fun t25 =>
    gd t25 true (fun k => k t16 w) w fun t27 w =>
    gd t25 true (fun k => ln1 t27 fun v => k v w) w fun t28 w =>
    gd t25 true (fun k => binQ Tryd.prog w .eql 3 true t28 (.int .i64 0) fun v => k v w) w fun t29 w =>
    pickQ t25 t29 (.bool false) fun t30 =>
    gd t30 true (fun k => callW Tryd.prog (.func (.func 14) #[] #[]) [] w k) w fun t32 w =>
    pickQ t30 t32 (.bool false) fun t33 =>
    R (.returned t33) w
  ) (
    callW Tryd.prog (.func (.func 15) #[] #[]) [t0, t1, t16] w fun t38 w =>
    exQ t38 0 fun t39 =>
    exQ t38 1 fun t40 =>
    binQ Tryd.prog w .neq 24 true t40 (.int .i64 0) fun t42 =>
    gd t42 false (fun k => k t39 w) w fun t44 w =>
    gd t42 false (fun k => unQ .not t44 fun v => k v w) w fun t45 w =>
    pickQ t42 (.bool true) t45 fun t46 =>
    gd t46 false (fun k => k t16 w) w fun t48 w =>
    gd t46 false (fun k => ln1 t48 fun v => k v w) w fun t49 w =>
    gd t46 false (fun k => binQ Tryd.prog w .eql 3 true t49 (.int .i64 0) fun v => k v w) w fun t50 w =>
    pickQ t46 (.bool true) t50 fun t51 =>
    condW t51 (
      R (.returned (.bool false)) w
    ) (
      S9L0 t0 t1 t16 R w
    )
  )

def A9 : Ann where
  live := fun
    | 0 => [9]
    | 2 => [10, 11]
    | _ => []
  wr := fun
    | 0 => fun i => Nat.beq i 4 || Nat.beq i 9 || (Nat.ble 52 i && Nat.ble i 69)
    | 2 => fun i => (Nat.ble 10 i && Nat.ble i 11) || (Nat.ble 72 i && Nat.ble i 77)
    | _ => fun _ => false
  sched := fun
    | 10 => (.take 0 (.take 1 (.take 2 (.take 3 (.take 4 (.take 5 (.take 6 (.take 7 (.take 8 (.take 9 (.take 10 (.take 11 .done))))))))))))
    | 14 => (.take 0 (.take 1 (.take 2 (.take 3 (.take 4 (.take 5 .done))))))
    | _ => .done

set_option maxRecDepth 100000 in
theorem ok9 : (codeOk Tryd.f9.ntmps A9 (Tryd.f9.body.getD .skip) 0 && Nat.ble 2 Tryd.f9.ntmps) = true := by kernel_rfl
set_option maxRecDepth 100000 in
theorem lift9 {t0 t1 : Value} {w : World} {R : Ending → World → Prop} (h : S9 t0 t1 w R) : Calls Tryd.prog 9 #[t0, t1] w R :=
  calls_of_cw (fn := Tryd.f9) (c := Tryd.f9.body.getD .skip) A9 mixes Tryd.func9 (by kernel_rfl) ok9
    ((by kernel_rfl : (S9 t0 t1 w R) = cw Tryd.prog A9 (Tryd.f9.body.getD .skip) 0 (bodyQ Tryd.prog Tryd.f9 R) (frOf #[t0, t1]) w).mp h)

theorem fok35 : fnOk Tryd.prog 35 = true := by kernel_rfl
theorem fok44 : fnOk Tryd.prog 44 = true := by kernel_rfl
theorem fok8 : fnOk Tryd.prog 8 = true := by kernel_rfl
theorem fok9 : fnOk Tryd.prog 9 = true := by kernel_rfl
end Go.Proofs.YtkdcldbedbagjaaDoor

/- Contracts: Cut of the program and of the reference; sheet. -/
namespace Go.Proofs.YtkdcldbedbagjaaDoor
open Go.Lf Go.RowKit Go.Dt

/-- The greatest squares that are cut from what is left, at most k. -/
def cutF : Nat → Int → Int → Int → Int → Option (List T3)
  | 0, _, _, w, h => if 0 < w ∧ 0 < h then none else some []
  | k + 1, x, y, w, h => if 0 < w ∧ 0 < h then
      (if h < w then cutF k (x + min w h) y (w - min w h) h else cutF k x (y + min w h) w (h - min w h)).map fun l => (x, y, min w h) :: l
    else some []
def cutS (W H : Int) : List T3 := if rectB W && rectB H then (cutF 16 0 0 W H).getD [] else []
def cutE (W H : Int) : Int := if rectB W && rectB H then (if (cutF 16 0 0 W H).isSome then 0 else 8) else 2

set_option maxRecDepth 100000 in
theorem r_pushS {base : Nat} {w : World} {v : Value} {P : List T3} {p : T3} {K : Value → World → Prop} (h : SqAt base w v P) (hn : P.length + 1 ≤ 1000000) (hb : base ≤ w.heap.size)
    (hk : ∀ v' w', SqAt base w' v' (P ++ [p]) → Chg (fun k => v.ownBlock = some k) w w' → K v' w') :
    bsW Tryd.prog 22 1 [(0, t3V p)] w fun s w => semW Tryd.prog (apS [22, 22] 22 [v, s]) w K :=
  r_pushRec (x := p) (xv := t3V p) (ty := 22) (K := K) slt22 t3C_len rfl (bs22 p _) (t3C_one _) (by omega) h hn hb fun v' w' o1 c1 _ => hk v' w' o1 c1

theorem cutF_pos {k : Nat} {x y w h : Int} (g : 0 < w ∧ 0 < h) : cutF (k + 1) x y w h = (if h < w then cutF k (x + min w h) y (w - min w h) h else cutF k x (y + min w h) w (h - min w h)).map fun l => (x, y, min w h) :: l := if_pos g
theorem map_map_app {α : Type} (o : Option (List α)) (P : List α) (a : α) : (o.map fun l => a :: l).map (P ++ ·) = o.map ((P ++ [a]) ++ ·) := by
  cases o <;> simp
theorem map_app_nil {α : Type} (o : Option (List α)) : o.map (([] : List α) ++ ·) = o := by cases o <;> simp

set_option maxRecDepth 100000 in
theorem Cut_calls (W H : Int) (w : World) : Calls Tryd.prog 34 #[.int .i64 W, .int .i64 H] w fun e w' => Kp w w' ∧ ∃ v, e = .returned (.tuple #[v, .int .i64 (cutE W H)]) ∧ SqAt w.heap.size w' v (cutS W H) := by
  refine lift34 ?_
  unfold S34
  refine r_use fok42 (rect_calls W w) rfl ?_
  rintro _ _ ⟨rfl, rfl⟩
  refine ⟨_, rfl, ?_⟩
  cases hW : rectB W with
  | false =>
    have hE : cutE W H = 2 := by unfold cutE; rw [hW]; rfl
    have hS : cutS W H = [] := by unfold cutS; rw [hW]; rfl
    rw [hE, hS]
    simp (disch := omega) only [r_ln, r_pick, r_pickT, r_pickF, r_condT, r_condF, r_gdTT, r_gdFF, r_gdTF, r_gdFT, r_gqTT, r_gqFF, r_gqTF, r_gqFT, r_not, r_lss, r_leq, r_gtr, r_geq, r_eql, r_neq, r_add, r_sub, r_min2, r_max2, r_min3, r_max3, r_fa, r_iaS, r_iaA, r_ex2a, r_ex2b, r_ex3a, r_ex3b, r_ex3c, r_nc, r_keepE, Nat.zero_add, Nat.add_zero, Nat.mul_one, Int.toNat_natCast, toNat_sub1, toNat_add1, decide_true, decide_false, Bool.not_true, Bool.not_false, if_true, if_false, Bool.false_eq_true, reduceCtorEq, r_gdU]
    exact ⟨Kp.refl _, _, rfl, RecAt.nil⟩
  | true =>
  simp (disch := omega) only [r_ln, r_pick, r_pickT, r_pickF, r_condT, r_condF, r_gdTT, r_gdFF, r_gdTF, r_gdFT, r_gqTT, r_gqFF, r_gqTF, r_gqFT, r_not, r_lss, r_leq, r_gtr, r_geq, r_eql, r_neq, r_add, r_sub, r_min2, r_max2, r_min3, r_max3, r_fa, r_iaS, r_iaA, r_ex2a, r_ex2b, r_ex3a, r_ex3b, r_ex3c, r_nc, r_keepE, Nat.zero_add, Nat.add_zero, Nat.mul_one, Int.toNat_natCast, toNat_sub1, toNat_add1, decide_true, decide_false, Bool.not_true, Bool.not_false, if_true, if_false, Bool.false_eq_true, reduceCtorEq, r_gdU]
  refine r_use fok42 (rect_calls H w) rfl ?_
  rintro _ _ ⟨rfl, rfl⟩
  refine ⟨_, rfl, ?_⟩
  cases hH : rectB H with
  | false =>
    have hE : cutE W H = 2 := by unfold cutE; rw [hW, hH]; rfl
    have hS : cutS W H = [] := by unfold cutS; rw [hW, hH]; rfl
    rw [hE, hS]
    simp (disch := omega) only [r_ln, r_pick, r_pickT, r_pickF, r_condT, r_condF, r_gdTT, r_gdFF, r_gdTF, r_gdFT, r_gqTT, r_gqFF, r_gqTF, r_gqFT, r_not, r_lss, r_leq, r_gtr, r_geq, r_eql, r_neq, r_add, r_sub, r_min2, r_max2, r_min3, r_max3, r_fa, r_iaS, r_iaA, r_ex2a, r_ex2b, r_ex3a, r_ex3b, r_ex3c, r_nc, r_keepE, Nat.zero_add, Nat.add_zero, Nat.mul_one, Int.toNat_natCast, toNat_sub1, toNat_add1, decide_true, decide_false, Bool.not_true, Bool.not_false, if_true, if_false, Bool.false_eq_true, reduceCtorEq, r_gdU]
    exact ⟨Kp.refl _, _, rfl, RecAt.nil⟩
  | true =>
  simp (disch := omega) only [r_ln, r_pick, r_pickT, r_pickF, r_condT, r_condF, r_gdTT, r_gdFF, r_gdTF, r_gdFT, r_gqTT, r_gqFF, r_gqTF, r_gqFT, r_not, r_lss, r_leq, r_gtr, r_geq, r_eql, r_neq, r_add, r_sub, r_min2, r_max2, r_min3, r_max3, r_fa, r_iaS, r_iaA, r_ex2a, r_ex2b, r_ex3a, r_ex3b, r_ex3c, r_nc, r_keepE, Nat.zero_add, Nat.add_zero, Nat.mul_one, Int.toNat_natCast, toNat_sub1, toNat_add1, decide_true, decide_false, Bool.not_true, Bool.not_false, if_true, if_false, Bool.false_eq_true, reduceCtorEq, r_gdU]
  have hE : cutE W H = if (cutF 16 0 0 W H).isSome then 0 else 8 := by unfold cutE; rw [hW, hH]; rfl
  have hS : cutS W H = (cutF 16 0 0 W H).getD [] := by unfold cutS; rw [hW, hH]; rfl
  have bW := of_decide_eq_true hW
  have bH := of_decide_eq_true hH
  rw [hE, hS]
  unfold S34L0
  refine ⟨fun t6 t7 t8 wr => ∃ (P : List T3) (k : Nat) (x y : Int), t7 = .int .i64 x ∧ t8 = .int .i64 y ∧ P.length + k = 16 ∧ 0 ≤ x ∧ x ≤ W ∧ 0 ≤ y ∧ y ≤ H ∧
      cutF 16 0 0 W H = (cutF k x y (W - x) (H - y)).map (P ++ ·) ∧ SqAt w.heap.size wr t6 P ∧ Kp w wr,
    fun _ t7 t8 _ => (W - intOf t7).toNat + (H - intOf t8).toNat, ⟨[], 16, 0, 0, rfl, rfl, rfl, by omega, by omega, by omega, by omega, by rw [map_app_nil]; simp, RecAt.nil, Kp.refl _⟩, ?_⟩
  rintro _ t6 _ _ wr ⟨P, k, x, y, rfl, rfl, hk, x0, x1, y0, y1, hF, hP, kr⟩
  obtain ⟨pa, pc, ep, _⟩ := hP.len
  have ln6 : ∀ K : Value → Prop, ln1 t6 K = K (.int .i64 P.length) := fun K => by rw [ep]; rfl
  have hsz := kr.size
  have mn : ∀ (a b : Int) (K : Value → Prop), mnQ false [.int .i64 a, .int .i64 b] K = K (.int .i64 (min a b)) := fun a b K => r_min2 _ _ _
  have stop : ¬ (0 < W - x ∧ 0 < H - y) → cutF 16 0 0 W H = some P := fun h => by
    rw [hF]
    cases k <;> (unfold cutF; rw [if_neg h]; simp)
  by_cases hx : x < W
  case neg =>
    rw [stop (by omega)]
    simp (disch := omega) only [r_ln, r_pick, r_pickT, r_pickF, r_condT, r_condF, r_gdTT, r_gdFF, r_gdTF, r_gdFT, r_gqTT, r_gqFF, r_gqTF, r_gqFT, r_not, r_lss, r_leq, r_gtr, r_geq, r_eql, r_neq, r_add, r_sub, r_min2, r_max2, r_min3, r_max3, r_fa, r_iaS, r_iaA, r_ex2a, r_ex2b, r_ex3a, r_ex3b, r_ex3c, r_nc, r_keepE, Nat.zero_add, Nat.add_zero, Nat.mul_one, Int.toNat_natCast, toNat_sub1, toNat_add1, decide_true, decide_false, Bool.not_true, Bool.not_false, if_true, if_false, Bool.false_eq_true, reduceCtorEq, r_gdU, hx]
    exact ⟨kr, _, rfl, hP⟩
  by_cases hy : y < H
  case neg =>
    rw [stop (by omega)]
    simp (disch := omega) only [r_ln, r_pick, r_pickT, r_pickF, r_condT, r_condF, r_gdTT, r_gdFF, r_gdTF, r_gdFT, r_gqTT, r_gqFF, r_gqTF, r_gqFT, r_not, r_lss, r_leq, r_gtr, r_geq, r_eql, r_neq, r_add, r_sub, r_min2, r_max2, r_min3, r_max3, r_fa, r_iaS, r_iaA, r_ex2a, r_ex2b, r_ex3a, r_ex3b, r_ex3c, r_nc, r_keepE, Nat.zero_add, Nat.add_zero, Nat.mul_one, Int.toNat_natCast, toNat_sub1, toNat_add1, decide_true, decide_false, Bool.not_true, Bool.not_false, if_true, if_false, Bool.false_eq_true, reduceCtorEq, r_gdU, hx, hy]
    exact ⟨kr, _, rfl, hP⟩
  match k, hk, hF with
  | 0, hk, hF =>
    have h16 : (P.length : Int) = 16 := by omega
    rw [show cutF 16 0 0 W H = none by rw [hF]; unfold cutF; rw [if_pos (by omega)]; rfl]
    simp (disch := omega) only [r_ln, r_pick, r_pickT, r_pickF, r_condT, r_condF, r_gdTT, r_gdFF, r_gdTF, r_gdFT, r_gqTT, r_gqFF, r_gqTF, r_gqFT, r_not, r_lss, r_leq, r_gtr, r_geq, r_eql, r_neq, r_add, r_sub, r_min2, r_max2, r_min3, r_max3, r_fa, r_iaS, r_iaA, r_ex2a, r_ex2b, r_ex3a, r_ex3b, r_ex3c, r_nc, r_keepE, Nat.zero_add, Nat.add_zero, Nat.mul_one, Int.toNat_natCast, toNat_sub1, toNat_add1, decide_true, decide_false, Bool.not_true, Bool.not_false, if_true, if_false, Bool.false_eq_true, reduceCtorEq, r_gdU, hx, hy, ln6, h16]
    exact ⟨kr, _, rfl, RecAt.nil⟩
  | k + 1, hk, hF =>
  have h16 : ¬ (P.length : Int) = 16 := by omega
  rw [cutF_pos (k := k) (by omega)] at hF
  simp (disch := omega) only [r_ln, r_pick, r_pickT, r_pickF, r_condT, r_condF, r_gdTT, r_gdFF, r_gdTF, r_gdFT, r_gqTT, r_gqFF, r_gqTF, r_gqFT, r_not, r_lss, r_leq, r_gtr, r_geq, r_eql, r_neq, r_add, r_sub, r_min2, r_max2, r_min3, r_max3, r_fa, r_iaS, r_iaA, r_ex2a, r_ex2b, r_ex3a, r_ex3b, r_ex3c, r_nc, r_keepE, Nat.zero_add, Nat.add_zero, Nat.mul_one, Int.toNat_natCast, toNat_sub1, toNat_add1, decide_true, decide_false, Bool.not_true, Bool.not_false, if_true, if_false, Bool.false_eq_true, reduceCtorEq, r_gdU, hx, hy, ln6, h16, mn]
  rw [bd44]
  refine r_pushS hP (by omega) (by omega) fun v' w' o1 c1 => ?_
  have k1 : Kp w w' := Kp.of_chg kr c1 fun q hq => (hP.lt hq).1
  by_cases hgt : H - y < W - x
  · have hm : min (W - x) (H - y) = H - y := by omega
    rw [if_pos hgt, map_map_app] at hF
    simp (disch := omega) only [r_ln, r_pick, r_pickT, r_pickF, r_condT, r_condF, r_gdTT, r_gdFF, r_gdTF, r_gdFT, r_gqTT, r_gqFF, r_gqTF, r_gqFT, r_not, r_lss, r_leq, r_gtr, r_geq, r_eql, r_neq, r_add, r_sub, r_min2, r_max2, r_min3, r_max3, r_fa, r_iaS, r_iaA, r_ex2a, r_ex2b, r_ex3a, r_ex3b, r_ex3c, r_nc, r_keepE, Nat.zero_add, Nat.add_zero, Nat.mul_one, Int.toNat_natCast, toNat_sub1, toNat_add1, decide_true, decide_false, Bool.not_true, Bool.not_false, if_true, if_false, Bool.false_eq_true, reduceCtorEq, hgt, hm]
    refine ⟨⟨P ++ [_], k, x + (H - y), y, rfl, rfl, by simp; omega, by omega, by omega, by omega, by omega, ?_, by rw [hm] at o1; exact o1, k1⟩, by simp only [intOf]; omega⟩
    rw [hF, hm]
    congr 2
    omega
  · have hm : min (W - x) (H - y) = W - x := by omega
    rw [if_neg hgt, map_map_app] at hF
    simp (disch := omega) only [r_ln, r_pick, r_pickT, r_pickF, r_condT, r_condF, r_gdTT, r_gdFF, r_gdTF, r_gdFT, r_gqTT, r_gqFF, r_gqTF, r_gqFT, r_not, r_lss, r_leq, r_gtr, r_geq, r_eql, r_neq, r_add, r_sub, r_min2, r_max2, r_min3, r_max3, r_fa, r_iaS, r_iaA, r_ex2a, r_ex2b, r_ex3a, r_ex3b, r_ex3c, r_nc, r_keepE, Nat.zero_add, Nat.add_zero, Nat.mul_one, Int.toNat_natCast, toNat_sub1, toNat_add1, decide_true, decide_false, Bool.not_true, Bool.not_false, if_true, if_false, Bool.false_eq_true, reduceCtorEq, hgt, hm]
    refine ⟨⟨P ++ [_], k, x, y + (W - x), rfl, rfl, by simp; omega, by omega, by omega, by omega, by omega, ?_, by rw [hm] at o1; exact o1, k1⟩, by simp only [intOf]; omega⟩
    rw [hF, hm]
    congr 2
    omega

set_option maxRecDepth 100000 in
theorem sheet_calls (W H : Int) (w : World) : Calls Tryd.prog 44 #[.int .i64 W, .int .i64 H] w fun e w' => e = .returned (.bool (rectB W && rectB H)) ∧ w = w' := by
  refine lift44 ?_
  unfold S44
  unfold rectB
  by_cases a1 : 1 ≤ W <;> by_cases a2 : W ≤ 1000 <;> by_cases a3 : 1 ≤ H <;> by_cases a4 : H ≤ 1000 <;> simp [r_ln, r_pick, r_pickT, r_pickF, r_condT, r_condF, r_gdTT, r_gdFF, r_gdTF, r_gdFT, r_gqTT, r_gqFF, r_gqTF, r_gqFT, r_not, r_lss, r_leq, r_gtr, r_geq, r_eql, r_neq, r_add, r_sub, r_min2, r_max2, r_min3, r_max3, r_fa, r_iaS, r_iaA, r_ex2a, r_ex2b, r_ex3a, r_ex3b, r_ex3c, r_nc, r_keepE, Nat.zero_add, Nat.add_zero, Nat.mul_one, Int.toNat_natCast, toNat_sub1, toNat_add1, decide_true, decide_false, Bool.not_true, Bool.not_false, if_true, if_false, Bool.false_eq_true, reduceCtorEq, r_gdU, a1, a2, a3, a4]

set_option maxRecDepth 100000 in
theorem rCut_calls (W H : Int) (w : World) : Calls Tryd.prog 35 #[.int .i64 W, .int .i64 H] w fun e w' => Kp w w' ∧ ∃ v, e = .returned (.tuple #[v, .int .i64 (cutE W H)]) ∧ SqAt w.heap.size w' v (cutS W H) := by
  refine lift35 ?_
  unfold S35
  refine r_use fok44 (sheet_calls W H w) rfl ?_
  rintro _ _ ⟨rfl, rfl⟩
  refine ⟨_, rfl, ?_⟩
  cases hB : rectB W && rectB H with
  | false =>
    have hE : cutE W H = 2 := by unfold cutE; rw [hB]; rfl
    have hS : cutS W H = [] := by unfold cutS; rw [hB]; rfl
    rw [hE, hS]
    simp (disch := omega) only [r_ln, r_pick, r_pickT, r_pickF, r_condT, r_condF, r_gdTT, r_gdFF, r_gdTF, r_gdFT, r_gqTT, r_gqFF, r_gqTF, r_gqFT, r_not, r_lss, r_leq, r_gtr, r_geq, r_eql, r_neq, r_add, r_sub, r_min2, r_max2, r_min3, r_max3, r_fa, r_iaS, r_iaA, r_ex2a, r_ex2b, r_ex3a, r_ex3b, r_ex3c, r_nc, r_keepE, Nat.zero_add, Nat.add_zero, Nat.mul_one, Int.toNat_natCast, toNat_sub1, toNat_add1, decide_true, decide_false, Bool.not_true, Bool.not_false, if_true, if_false, Bool.false_eq_true, reduceCtorEq, r_gdU]
    exact ⟨Kp.refl _, _, rfl, RecAt.nil⟩
  | true =>
  simp (disch := omega) only [r_ln, r_pick, r_pickT, r_pickF, r_condT, r_condF, r_gdTT, r_gdFF, r_gdTF, r_gdFT, r_gqTT, r_gqFF, r_gqTF, r_gqFT, r_not, r_lss, r_leq, r_gtr, r_geq, r_eql, r_neq, r_add, r_sub, r_min2, r_max2, r_min3, r_max3, r_fa, r_iaS, r_iaA, r_ex2a, r_ex2b, r_ex3a, r_ex3b, r_ex3c, r_nc, r_keepE, Nat.zero_add, Nat.add_zero, Nat.mul_one, Int.toNat_natCast, toNat_sub1, toNat_add1, decide_true, decide_false, Bool.not_true, Bool.not_false, if_true, if_false, Bool.false_eq_true, reduceCtorEq, r_gdU]
  have hE : cutE W H = if (cutF 16 0 0 W H).isSome then 0 else 8 := by unfold cutE; rw [hB]; rfl
  have hS : cutS W H = (cutF 16 0 0 W H).getD [] := by unfold cutS; rw [hB]; rfl
  rw [Bool.and_eq_true] at hB
  have bW := of_decide_eq_true hB.1
  have bH := of_decide_eq_true hB.2
  rw [hE, hS]
  unfold S35L0
  refine ⟨fun t0 t1 t6 t7 t8 wr => ∃ (P : List T3) (k : Nat) (x y a b : Int), t0 = .int .i64 a ∧ t1 = .int .i64 b ∧ t7 = .int .i64 x ∧ t8 = .int .i64 y ∧ P.length + k = 16 ∧ 0 ≤ x ∧ x + a = W ∧ 0 ≤ a ∧ 0 ≤ y ∧ y + b = H ∧ 0 ≤ b ∧
      cutF 16 0 0 W H = (cutF k x y a b).map (P ++ ·) ∧ SqAt w.heap.size wr t6 P ∧ Kp w wr,
    fun t0 t1 _ _ _ _ => (intOf t0).toNat + (intOf t1).toNat, ⟨[], 16, 0, 0, W, H, rfl, rfl, rfl, rfl, rfl, by omega, by omega, by omega, by omega, by omega, by omega, by rw [map_app_nil], RecAt.nil, Kp.refl _⟩, ?_⟩
  rintro _ _ _ t6 _ _ wr ⟨P, k, x, y, a, b, rfl, rfl, rfl, rfl, hk, x0, x1, a0, y0, y1, b0, hF, hP, kr⟩
  obtain ⟨pa, pc, ep, _⟩ := hP.len
  have ln6 : ∀ K : Value → Prop, ln1 t6 K = K (.int .i64 P.length) := fun K => by rw [ep]; rfl
  have hsz := kr.size
  have mn : ∀ (a b : Int) (K : Value → Prop), mnQ false [.int .i64 a, .int .i64 b] K = K (.int .i64 (min a b)) := fun a b K => r_min2 _ _ _
  have stop : ¬ (0 < a ∧ 0 < b) → cutF 16 0 0 W H = some P := fun h => by
    rw [hF]
    cases k <;> (unfold cutF; rw [if_neg h]; simp)
  by_cases hx : 0 < a
  case neg =>
    rw [stop (by omega)]
    simp (disch := omega) only [r_ln, r_pick, r_pickT, r_pickF, r_condT, r_condF, r_gdTT, r_gdFF, r_gdTF, r_gdFT, r_gqTT, r_gqFF, r_gqTF, r_gqFT, r_not, r_lss, r_leq, r_gtr, r_geq, r_eql, r_neq, r_add, r_sub, r_min2, r_max2, r_min3, r_max3, r_fa, r_iaS, r_iaA, r_ex2a, r_ex2b, r_ex3a, r_ex3b, r_ex3c, r_nc, r_keepE, Nat.zero_add, Nat.add_zero, Nat.mul_one, Int.toNat_natCast, toNat_sub1, toNat_add1, decide_true, decide_false, Bool.not_true, Bool.not_false, if_true, if_false, Bool.false_eq_true, reduceCtorEq, r_gdU, hx]
    exact ⟨kr, _, rfl, hP⟩
  by_cases hy : 0 < b
  case neg =>
    rw [stop (by omega)]
    simp (disch := omega) only [r_ln, r_pick, r_pickT, r_pickF, r_condT, r_condF, r_gdTT, r_gdFF, r_gdTF, r_gdFT, r_gqTT, r_gqFF, r_gqTF, r_gqFT, r_not, r_lss, r_leq, r_gtr, r_geq, r_eql, r_neq, r_add, r_sub, r_min2, r_max2, r_min3, r_max3, r_fa, r_iaS, r_iaA, r_ex2a, r_ex2b, r_ex3a, r_ex3b, r_ex3c, r_nc, r_keepE, Nat.zero_add, Nat.add_zero, Nat.mul_one, Int.toNat_natCast, toNat_sub1, toNat_add1, decide_true, decide_false, Bool.not_true, Bool.not_false, if_true, if_false, Bool.false_eq_true, reduceCtorEq, r_gdU, hx, hy]
    exact ⟨kr, _, rfl, hP⟩
  match k, hk, hF with
  | 0, hk, hF =>
    have h16 : (P.length : Int) = 16 := by omega
    rw [show cutF 16 0 0 W H = none by rw [hF]; unfold cutF; rw [if_pos (by omega)]; rfl]
    simp (disch := omega) only [r_ln, r_pick, r_pickT, r_pickF, r_condT, r_condF, r_gdTT, r_gdFF, r_gdTF, r_gdFT, r_gqTT, r_gqFF, r_gqTF, r_gqFT, r_not, r_lss, r_leq, r_gtr, r_geq, r_eql, r_neq, r_add, r_sub, r_min2, r_max2, r_min3, r_max3, r_fa, r_iaS, r_iaA, r_ex2a, r_ex2b, r_ex3a, r_ex3b, r_ex3c, r_nc, r_keepE, Nat.zero_add, Nat.add_zero, Nat.mul_one, Int.toNat_natCast, toNat_sub1, toNat_add1, decide_true, decide_false, Bool.not_true, Bool.not_false, if_true, if_false, Bool.false_eq_true, reduceCtorEq, r_gdU, hx, hy, ln6, h16]
    exact ⟨kr, _, rfl, RecAt.nil⟩
  | k + 1, hk, hF =>
  have h16 : ¬ (P.length : Int) = 16 := by omega
  rw [cutF_pos (k := k) (by omega)] at hF
  simp (disch := omega) only [r_ln, r_pick, r_pickT, r_pickF, r_condT, r_condF, r_gdTT, r_gdFF, r_gdTF, r_gdFT, r_gqTT, r_gqFF, r_gqTF, r_gqFT, r_not, r_lss, r_leq, r_gtr, r_geq, r_eql, r_neq, r_add, r_sub, r_min2, r_max2, r_min3, r_max3, r_fa, r_iaS, r_iaA, r_ex2a, r_ex2b, r_ex3a, r_ex3b, r_ex3c, r_nc, r_keepE, Nat.zero_add, Nat.add_zero, Nat.mul_one, Int.toNat_natCast, toNat_sub1, toNat_add1, decide_true, decide_false, Bool.not_true, Bool.not_false, if_true, if_false, Bool.false_eq_true, reduceCtorEq, r_gdU, hx, hy, ln6, h16, mn]
  rw [bd44]
  refine r_pushS hP (by omega) (by omega) fun v' w' o1 c1 => ?_
  have k1 : Kp w w' := Kp.of_chg kr c1 fun q hq => (hP.lt hq).1
  by_cases hgt : b < a
  · have hm : min a b = b := by omega
    rw [if_pos hgt, map_map_app, hm] at hF
    rw [hm] at o1
    simp (disch := omega) only [r_ln, r_pick, r_pickT, r_pickF, r_condT, r_condF, r_gdTT, r_gdFF, r_gdTF, r_gdFT, r_gqTT, r_gqFF, r_gqTF, r_gqFT, r_not, r_lss, r_leq, r_gtr, r_geq, r_eql, r_neq, r_add, r_sub, r_min2, r_max2, r_min3, r_max3, r_fa, r_iaS, r_iaA, r_ex2a, r_ex2b, r_ex3a, r_ex3b, r_ex3c, r_nc, r_keepE, Nat.zero_add, Nat.add_zero, Nat.mul_one, Int.toNat_natCast, toNat_sub1, toNat_add1, decide_true, decide_false, Bool.not_true, Bool.not_false, if_true, if_false, Bool.false_eq_true, reduceCtorEq, hgt, hm]
    exact ⟨⟨P ++ [_], k, x + b, y, a - b, b, rfl, rfl, rfl, rfl, by simp; omega, by omega, by omega, by omega, by omega, by omega, by omega, hF, o1, k1⟩, by simp only [intOf]; omega⟩
  · have hm : min a b = a := by omega
    rw [if_neg hgt, map_map_app, hm] at hF
    rw [hm] at o1
    simp (disch := omega) only [r_ln, r_pick, r_pickT, r_pickF, r_condT, r_condF, r_gdTT, r_gdFF, r_gdTF, r_gdFT, r_gqTT, r_gqFF, r_gqTF, r_gqFT, r_not, r_lss, r_leq, r_gtr, r_geq, r_eql, r_neq, r_add, r_sub, r_min2, r_max2, r_min3, r_max3, r_fa, r_iaS, r_iaA, r_ex2a, r_ex2b, r_ex3a, r_ex3b, r_ex3c, r_nc, r_keepE, Nat.zero_add, Nat.add_zero, Nat.mul_one, Int.toNat_natCast, toNat_sub1, toNat_add1, decide_true, decide_false, Bool.not_true, Bool.not_false, if_true, if_false, Bool.false_eq_true, reduceCtorEq, hgt, hm]
    exact ⟨⟨P ++ [_], k, x, y + a, a, b - a, rfl, rfl, rfl, rfl, by simp; omega, by omega, by omega, by omega, by omega, by omega, by omega, hF, o1, k1⟩, by simp only [intOf]; omega⟩

theorem cut_len {k : Nat} : ∀ {x y w h : Int} {l : List T3}, cutF k x y w h = some l → l.length ≤ k := by
  induction k with
  | zero =>
    intro x y w h l e
    unfold cutF at e
    split at e
    · cases e
    · cases e; simp
  | succ k ih =>
    intro x y w h l e
    unfold cutF at e
    split at e
    · split at e <;>
      · rw [Option.map_eq_some_iff] at e
        obtain ⟨l', h1, rfl⟩ := e
        have := ih h1
        simp only [List.length_cons]
        omega
    · cases e; simp
theorem cutS_len (W H : Int) : (cutS W H).length ≤ 16 := by
  unfold cutS
  split
  · cases h : cutF 16 0 0 W H with
    | none => simp
    | some l => exact cut_len h
  · simp

set_option maxRecDepth 100000 in
theorem law_cuts (W H : Int) (w : World) (hw : Wh w) : Calls Tryd.prog 8 #[.int .i64 W, .int .i64 H] w fun e w' => e = .returned (.bool true) ∧ Kp w w' := by
  refine lift8 ?_
  unfold S8
  refine r_use fok34 (Cut_calls W H w) rfl ?_
  rintro _ w1 ⟨k1, v1, rfl, o1⟩
  refine ⟨_, rfl, ?_⟩
  rw [r_ex2a, r_ex2b]
  refine r_use fok35 (rCut_calls W H w1) rfl ?_
  rintro _ w2 ⟨k2, v2, rfl, o2⟩
  refine ⟨_, rfl, ?_⟩
  rw [r_ex2a, r_ex2b]
  have hl := cutS_len W H
  refine r_use fok20 (squares_calls w2 ((o1.kp k2).rd t3C_len) (o2.rd t3C_len) (by omega)) rfl ?_
  rintro _ w3 ⟨rfl, k3⟩
  refine ⟨_, rfl, ?_⟩
  have k03 := Kp.trans k1 (Kp.trans k2 k3)
  rw [decide_eq_true rfl]
  simp only [r_ln, r_pick, r_pickT, r_pickF, r_condT, r_condF, r_gdTT, r_gdFF, r_gdTF, r_gdFT, r_gqTT, r_gqFF, r_gqTF, r_gqFT, r_not, r_lss, r_leq, r_gtr, r_geq, r_eql, r_neq, r_add, r_sub, r_min2, r_max2, r_min3, r_max3, r_fa, r_iaS, r_iaA, r_ex2a, r_ex2b, r_ex3a, r_ex3b, r_ex3c, r_nc, r_keepE, Nat.zero_add, Nat.add_zero, Nat.mul_one, Int.toNat_natCast, toNat_sub1, toNat_add1, decide_true, decide_false, Bool.not_true, Bool.not_false, if_true, if_false, Bool.false_eq_true, reduceCtorEq]
  refine r_use fok14 (alive_calls w3 (hw.kp k03)) rfl ?_
  rintro _ w4 ⟨rfl, k4⟩
  refine ⟨_, rfl, ?_⟩
  exact ⟨rfl, Kp.trans k03 k4⟩

end Go.Proofs.YtkdcldbedbagjaaDoor

/- Lifted texts, printed by program (gen.py): what each function's code asks. The ties are by the kernel. -/
namespace Go.Proofs.YtkdcldbedbagjaaDoor
open Go.Lf Go.RowKit

def S16 (t0 t1 t2 : Value) (w : World) (R : Ending → World → Prop) : Prop :=
  callW Tryd.prog (.func (.func 44) #[] #[]) [t0, t1] w fun t10 w =>
  unQ .not t10 fun t11 =>
  condW t11 (
    R (.returned (.tuple #[(.bool false), (.int .i64 2)])) w
  ) (
    ln1 t2 fun t13 =>
    binQ Tryd.prog w .gtr 3 true t13 (.int .i64 16) fun t14 =>
    condW t14 (
      R (.returned (.tuple #[(.bool false), (.int .i64 3)])) w
    ) (
      callW Tryd.prog (.func (.func 45) #[] #[]) [t0, t1, t2] w fun t18 w =>
      R (.returned (.tuple #[t18, (.int .i64 0)])) w
    )
  )

def A16 : Ann where
  live := fun _ => []
  wr := fun _ _ => false
  sched := fun _ => .done

set_option maxRecDepth 100000 in
theorem ok16 : (codeOk Tryd.f16.ntmps A16 (Tryd.f16.body.getD .skip) 0 && Nat.ble 3 Tryd.f16.ntmps) = true := by kernel_rfl
set_option maxRecDepth 100000 in
theorem lift16 {t0 t1 t2 : Value} {w : World} {R : Ending → World → Prop} (h : S16 t0 t1 t2 w R) : Calls Tryd.prog 16 #[t0, t1, t2] w R :=
  calls_of_cw (fn := Tryd.f16) (c := Tryd.f16.body.getD .skip) A16 mixes Tryd.func16 (by kernel_rfl) ok16
    ((by kernel_rfl : (S16 t0 t1 t2 w R) = cw Tryd.prog A16 (Tryd.f16.body.getD .skip) 0 (bodyQ Tryd.prog Tryd.f16 R) (frOf #[t0, t1, t2]) w).mp h)

def S18L1 (t2 t13 t30 t32 : Value) (R : Ending → World → Prop) (w : World) : Prop :=
  Loop2 (.slice none 0 0) (.int .i64 0) w fun _ t15 t16 w next_2 =>
    ln1 t2 fun t51 =>
    binQ Tryd.prog w .lss 3 false t16 t51 fun t52 =>
    condW t52 (
      binQ Tryd.prog w .mul 3 true (.int .i64 2) t16 fun t59 =>
      callW Tryd.prog (.func (.func 53) #[] #[]) [t30, t32, t59] w fun t60 w =>
      binQ Tryd.prog w .mul 3 true (.int .i64 2) t16 fun t64 =>
      binQ Tryd.prog w .add 3 true t64 (.int .i64 1) fun t65 =>
      callW Tryd.prog (.func (.func 53) #[] #[]) [t30, t32, t65] w fun t66 w =>
      bdQ Tryd.prog 40 [(0, t60), (1, t66)] fun t67 =>
      bsW Tryd.prog 27 1 [(0, t67)] w fun t68 w =>
      semW Tryd.prog (apS [27, 27] 27 [t15, t68]) w fun t69 w =>
      binQ Tryd.prog w .add 3 true t16 (.int .i64 1) fun t54 =>
      next_2 t69 t54 w
    ) (
      R (.returned (.tuple #[t13, t15, (.int .i64 0)])) w
    )

def S18L0 (t2 t30 t32 : Value) (R : Ending → World → Prop) (w : World) : Prop :=
  Loop2 (.int .i64 0) (.int .i64 0) w fun _ t13 t14 w next =>
    ln1 t32 fun t35 =>
    binQ Tryd.prog w .lss 3 false t14 t35 fun t36 =>
    condW t36 (
      iaS 1 t32 t14 fun t41 =>
      ld1 w t41 fun t42 =>
      binQ Tryd.prog w .eql 3 false t42 t14 fun t44 =>
      Join (fun (k_2 : Value → World → Prop) =>
        condW t44 (
          binQ Tryd.prog w .add 3 true t13 (.int .i64 1) fun t46 =>
          k_2 t46 w
        ) (
          k_2 t13 w
        )
      ) fun t13_2 w =>
      binQ Tryd.prog w .add 3 true t14 (.int .i64 1) fun t38_2 =>
      next t13_2 t38_2 w
    ) (
      binQ Tryd.prog w .gtr 3 true t13 (.int .i64 8) fun t48 =>
      condW t48 (
        R (.returned (.tuple #[(.int .i64 0), (.slice none 0 0), (.int .i64 8)])) w
      ) (
        S18L1 t2 t13 t30 t32 R w
      )
    )

def S18 (t0 t1 t2 : Value) (w : World) (R : Ending → World → Prop) : Prop :=
  callW Tryd.prog (.func (.func 16) #[] #[]) [t0, t1, t2] w fun t21 w =>
  exQ t21 0 fun t22 =>
  exQ t21 1 fun t23 =>
  binQ Tryd.prog w .neq 24 true t23 (.int .i64 0) fun t25 =>
  condW t25 (
    R (.returned (.tuple #[(.int .i64 0), (.slice none 0 0), t23])) w
  ) (
    unQ .not t22 fun t28 =>
    condW t28 (
      R (.returned (.tuple #[(.int .i64 0), (.slice none 0 0), (.int .i64 10)])) w
    ) (
      callW Tryd.prog (.func (.func 51) #[] #[]) [t2] w fun t30 w =>
      callW Tryd.prog (.func (.func 52) #[] #[]) [t30] w fun t32 w =>
      S18L0 t2 t30 t32 R w
    )
  )

def A18 : Ann where
  live := fun
    | 0 => [13, 14]
    | 2 => [15, 16]
    | _ => []
  wr := fun
    | 0 => fun i => (Nat.ble 13 i && Nat.ble i 14) || (Nat.ble 33 i && Nat.ble i 46)
    | 2 => fun i => (Nat.ble 15 i && Nat.ble i 16) || (Nat.ble 49 i && Nat.ble i 69)
    | _ => fun _ => false
  sched := fun _ => .done

set_option maxRecDepth 100000 in
theorem ok18 : (codeOk Tryd.f18.ntmps A18 (Tryd.f18.body.getD .skip) 0 && Nat.ble 3 Tryd.f18.ntmps) = true := by kernel_rfl
set_option maxRecDepth 100000 in
theorem lift18 {t0 t1 t2 : Value} {w : World} {R : Ending → World → Prop} (h : S18 t0 t1 t2 w R) : Calls Tryd.prog 18 #[t0, t1, t2] w R :=
  calls_of_cw (fn := Tryd.f18) (c := Tryd.f18.body.getD .skip) A18 mixes Tryd.func18 (by kernel_rfl) ok18
    ((by kernel_rfl : (S18 t0 t1 t2 w R) = cw Tryd.prog A18 (Tryd.f18.body.getD .skip) 0 (bodyQ Tryd.prog Tryd.f18 R) (frOf #[t0, t1, t2]) w).mp h)

def S45L1 (t2 t7 t8 t9 : Value) (next : Value → Value → World → Prop) (R : Ending → World → Prop) (w : World) : Prop :=
  Loop1 (.int .i64 0) w fun _ t10 w next_2 =>
    binQ Tryd.prog w .lss 3 false t10 t8 fun t60 =>
    condW t60 (
      iaS 3 t2 t10 fun t65 =>
      ldN 3 w t65 fun t66 =>
      boxW 44 (.agg #[(.int .i64 0), (.int .i64 0), (.int .i64 0)]) w fun t11 w =>
      stW Tryd.prog 44 t11 t66 w fun w =>
      fa1 t11 0 fun t67 =>
      ld1 w t67 fun t68 =>
      fa1 t9 0 fun t69 =>
      ld1 w t69 fun t70 =>
      fa1 t9 2 fun t71 =>
      ld1 w t71 fun t72 =>
      binQ Tryd.prog w .add 3 false t70 t72 fun t73 =>
      binQ Tryd.prog w .lss 3 false t68 t73 fun t74 =>
      gd t74 true (fun k => fa1 t9 0 fun v => k v w) w fun t76 w =>
      gd t74 true (fun k => ld1 w t76 fun v => k v w) w fun t77 w =>
      gd t74 true (fun k => fa1 t11 0 fun v => k v w) w fun t78 w =>
      gd t74 true (fun k => ld1 w t78 fun v => k v w) w fun t79 w =>
      gd t74 true (fun k => fa1 t11 2 fun v => k v w) w fun t80 w =>
      gd t74 true (fun k => ld1 w t80 fun v => k v w) w fun t81 w =>
      gd t74 true (fun k => binQ Tryd.prog w .add 3 false t79 t81 fun v => k v w) w fun t82 w =>
      gd t74 true (fun k => binQ Tryd.prog w .lss 3 false t77 t82 fun v => k v w) w fun t83 w =>
      pickQ t74 t83 (.bool false) fun t84 =>
      gd t84 true (fun k => fa1 t11 1 fun v => k v w) w fun t86 w =>
      gd t84 true (fun k => ld1 w t86 fun v => k v w) w fun t87 w =>
      gd t84 true (fun k => fa1 t9 1 fun v => k v w) w fun t88 w =>
      gd t84 true (fun k => ld1 w t88 fun v => k v w) w fun t89 w =>
      gd t84 true (fun k => fa1 t9 2 fun v => k v w) w fun t90 w =>
      gd t84 true (fun k => ld1 w t90 fun v => k v w) w fun t91 w =>
      gd t84 true (fun k => binQ Tryd.prog w .add 3 false t89 t91 fun v => k v w) w fun t92 w =>
      gd t84 true (fun k => binQ Tryd.prog w .lss 3 false t87 t92 fun v => k v w) w fun t93 w =>
      pickQ t84 t93 (.bool false) fun t94 =>
      gd t94 true (fun k => fa1 t9 1 fun v => k v w) w fun t96 w =>
      gd t94 true (fun k => ld1 w t96 fun v => k v w) w fun t97 w =>
      gd t94 true (fun k => fa1 t11 1 fun v => k v w) w fun t98 w =>
      gd t94 true (fun k => ld1 w t98 fun v => k v w) w fun t99 w =>
      gd t94 true (fun k => fa1 t11 2 fun v => k v w) w fun t100 w =>
      gd t94 true (fun k => ld1 w t100 fun v => k v w) w fun t101 w =>
      gd t94 true (fun k => binQ Tryd.prog w .add 3 false t99 t101 fun v => k v w) w fun t102 w =>
      gd t94 true (fun k => binQ Tryd.prog w .lss 3 false t97 t102 fun v => k v w) w fun t103 w =>
      pickQ t94 t103 (.bool false) fun t104 =>
      condW t104 (
        R (.returned (.bool false)) w
      ) (
        binQ Tryd.prog w .add 3 true t10 (.int .i64 1) fun t62 =>
        next_2 t62 w
      )
    ) (
      fa1 t9 2 fun t106 =>
      ld1 w t106 fun t107 =>
      fa1 t9 2 fun t108 =>
      ld1 w t108 fun t109 =>
      binQ Tryd.prog w .mul 3 false t107 t109 fun t110 =>
      binQ Tryd.prog w .add 3 false t7 t110 fun t111 =>
      binQ Tryd.prog w .add 3 true t8 (.int .i64 1) fun t17 =>
      next t111 t17 w
    )

def S45L0 (t0 t1 t2 : Value) (R : Ending → World → Prop) (w : World) : Prop :=
  Loop2 (.int .i64 0) (.int .i64 0) w fun _ t7 t8 w next =>
    ln1 t2 fun t14 =>
    binQ Tryd.prog w .lss 3 false t8 t14 fun t15 =>
    condW t15 (
      iaS 3 t2 t8 fun t20 =>
      ldN 3 w t20 fun t21 =>
      boxW 44 (.agg #[(.int .i64 0), (.int .i64 0), (.int .i64 0)]) w fun t9 w =>
      stW Tryd.prog 44 t9 t21 w fun w =>
      fa1 t9 2 fun t22 =>
      ld1 w t22 fun t23 =>
      binQ Tryd.prog w .lss 3 true t23 (.int .i64 1) fun t24 =>
      gd t24 false (fun k => fa1 t9 2 fun v => k v w) w fun t26 w =>
      gd t24 false (fun k => ld1 w t26 fun v => k v w) w fun t27 w =>
      gd t24 false (fun k => binQ Tryd.prog w .gtr 3 true t27 (.int .i64 1000) fun v => k v w) w fun t28 w =>
      pickQ t24 (.bool true) t28 fun t29 =>
      gd t29 false (fun k => fa1 t9 0 fun v => k v w) w fun t31 w =>
      gd t29 false (fun k => ld1 w t31 fun v => k v w) w fun t32 w =>
      gd t29 false (fun k => binQ Tryd.prog w .lss 3 true t32 (.int .i64 0) fun v => k v w) w fun t33 w =>
      pickQ t29 (.bool true) t33 fun t34 =>
      gd t34 false (fun k => fa1 t9 0 fun v => k v w) w fun t36 w =>
      gd t34 false (fun k => ld1 w t36 fun v => k v w) w fun t37 w =>
      gd t34 false (fun k => k t0 w) w fun t38 w =>
      gd t34 false (fun k => fa1 t9 2 fun v => k v w) w fun t39 w =>
      gd t34 false (fun k => ld1 w t39 fun v => k v w) w fun t40 w =>
      gd t34 false (fun k => binQ Tryd.prog w .sub 3 false t38 t40 fun v => k v w) w fun t41 w =>
      gd t34 false (fun k => binQ Tryd.prog w .gtr 3 false t37 t41 fun v => k v w) w fun t42 w =>
      pickQ t34 (.bool true) t42 fun t43 =>
      gd t43 false (fun k => fa1 t9 1 fun v => k v w) w fun t45 w =>
      gd t43 false (fun k => ld1 w t45 fun v => k v w) w fun t46 w =>
      gd t43 false (fun k => binQ Tryd.prog w .lss 3 true t46 (.int .i64 0) fun v => k v w) w fun t47 w =>
      pickQ t43 (.bool true) t47 fun t48 =>
      gd t48 false (fun k => fa1 t9 1 fun v => k v w) w fun t50 w =>
      gd t48 false (fun k => ld1 w t50 fun v => k v w) w fun t51 w =>
      gd t48 false (fun k => k t1 w) w fun t52 w =>
      gd t48 false (fun k => fa1 t9 2 fun v => k v w) w fun t53 w =>
      gd t48 false (fun k => ld1 w t53 fun v => k v w) w fun t54 w =>
      gd t48 false (fun k => binQ Tryd.prog w .sub 3 false t52 t54 fun v => k v w) w fun t55 w =>
      gd t48 false (fun k => binQ Tryd.prog w .gtr 3 false t51 t55 fun v => k v w) w fun t56 w =>
      pickQ t48 (.bool true) t56 fun t57 =>
      condW t57 (
        R (.returned (.bool false)) w
      ) (
        S45L1 t2 t7 t8 t9 next R w
      )
    ) (
      binQ Tryd.prog w .mul 3 false t0 t1 fun t115 =>
      binQ Tryd.prog w .eql 3 false t7 t115 fun t116 =>
      R (.returned t116) w
    )



def S45 (t0 t1 t2 : Value) (w : World) (R : Ending → World → Prop) : Prop :=
  S45L0 t0 t1 t2 R w

def A45 : Ann where
  live := fun
    | 0 => [7, 8]
    | 2 => [10]
    | _ => []
  wr := fun
    | 0 => fun i => (Nat.ble 6 i && Nat.ble i 111)
    | 2 => fun i => Nat.beq i 6 || (Nat.ble 10 i && Nat.ble i 11) || (Nat.ble 58 i && Nat.ble i 104)
    | _ => fun _ => false
  sched := fun _ => .done

set_option maxRecDepth 100000 in
theorem ok45 : (codeOk Tryd.f45.ntmps A45 (Tryd.f45.body.getD .skip) 0 && Nat.ble 3 Tryd.f45.ntmps) = true := by kernel_rfl
set_option maxRecDepth 100000 in
theorem lift45 {t0 t1 t2 : Value} {w : World} {R : Ending → World → Prop} (h : S45 t0 t1 t2 w R) : Calls Tryd.prog 45 #[t0, t1, t2] w R :=
  calls_of_cw (fn := Tryd.f45) (c := Tryd.f45.body.getD .skip) A45 mixes Tryd.func45 (by kernel_rfl) ok45
    ((by kernel_rfl : (S45 t0 t1 t2 w R) = cw Tryd.prog A45 (Tryd.f45.body.getD .skip) 0 (bodyQ Tryd.prog Tryd.f45 R) (frOf #[t0, t1, t2]) w).mp h)

def S51L0 (t0 : Value) (R : Ending → World → Prop) (w : World) : Prop :=
  Loop2 (.slice none 0 0) (.int .i64 0) w fun _ t3 t4 w next =>
    ln1 t0 fun t8 =>
    binQ Tryd.prog w .lss 3 false t4 t8 fun t9 =>
    condW t9 (
      iaS 3 t0 t4 fun t14 =>
      ldN 3 w t14 fun t15 =>
      boxW 44 (.agg #[(.int .i64 0), (.int .i64 0), (.int .i64 0)]) w fun t5 w =>
      stW Tryd.prog 44 t5 t15 w fun w =>
      fa1 t5 0 fun t17 =>
      ld1 w t17 fun t18 =>
      fa1 t5 0 fun t19 =>
      ld1 w t19 fun t20 =>
      fa1 t5 2 fun t21 =>
      ld1 w t21 fun t22 =>
      binQ Tryd.prog w .add 3 false t20 t22 fun t23 =>
      fa1 t5 1 fun t24 =>
      ld1 w t24 fun t25 =>
      bdQ Tryd.prog 97 [(0, t18), (1, t23), (2, t25)] fun t26 =>
      bsW Tryd.prog 75 1 [(0, t26)] w fun t27 w =>
      semW Tryd.prog (apS [75, 75] 75 [t3, t27]) w fun t28 w =>
      fa1 t5 0 fun t30 =>
      ld1 w t30 fun t31 =>
      fa1 t5 0 fun t32 =>
      ld1 w t32 fun t33 =>
      fa1 t5 2 fun t34 =>
      ld1 w t34 fun t35 =>
      binQ Tryd.prog w .add 3 false t33 t35 fun t36 =>
      fa1 t5 1 fun t37 =>
      ld1 w t37 fun t38 =>
      fa1 t5 2 fun t39 =>
      ld1 w t39 fun t40 =>
      binQ Tryd.prog w .add 3 false t38 t40 fun t41 =>
      bdQ Tryd.prog 97 [(0, t31), (1, t36), (2, t41)] fun t42 =>
      bsW Tryd.prog 75 1 [(0, t42)] w fun t43 w =>
      semW Tryd.prog (apS [75, 75] 75 [t28, t43]) w fun t44 w =>
      binQ Tryd.prog w .add 3 true t4 (.int .i64 1) fun t11 =>
      next t44 t11 w
    ) (
      R (.returned t3) w
    )



def S51 (t0 : Value) (w : World) (R : Ending → World → Prop) : Prop :=
  S51L0 t0 R w

def A51 : Ann where
  live := fun
    | 0 => [3, 4]
    | _ => []
  wr := fun
    | 0 => fun i => (Nat.ble 3 i && Nat.ble i 44)
    | _ => fun _ => false
  sched := fun _ => .done

set_option maxRecDepth 100000 in
theorem ok51 : (codeOk Tryd.f51.ntmps A51 (Tryd.f51.body.getD .skip) 0 && Nat.ble 1 Tryd.f51.ntmps) = true := by kernel_rfl
set_option maxRecDepth 100000 in
theorem lift51 {t0 : Value} {w : World} {R : Ending → World → Prop} (h : S51 t0 w R) : Calls Tryd.prog 51 #[t0] w R :=
  calls_of_cw (fn := Tryd.f51) (c := Tryd.f51.body.getD .skip) A51 mixes Tryd.func51 (by kernel_rfl) ok51
    ((by kernel_rfl : (S51 t0 w R) = cw Tryd.prog A51 (Tryd.f51.body.getD .skip) 0 (bodyQ Tryd.prog Tryd.f51 R) (frOf #[t0]) w).mp h)

def S52L3 (t0 t6 t11 : Value) (next_3 : Value → World → Prop) (w : World) : Prop :=
  Loop1 (.int .i64 0) w fun _ t7 w next_4 =>
    ln1 t0 fun t36 =>
    binQ Tryd.prog w .lss 3 false t7 t36 fun t37 =>
    condW t37 (
      Drew w fun w =>
      iaS 3 t0 t6 fun t42 =>
      fa1 t42 2 fun t43 =>
      ld1 w t43 fun t44 =>
      iaS 3 t0 t7 fun t47 =>
      fa1 t47 2 fun t48 =>
      ld1 w t48 fun t49 =>
      binQ Tryd.prog w .eql 3 false t44 t49 fun t50 =>
      gdQ t50 true (fun k => k t0) fun t52 =>
      gdQ t50 true (fun k => k t6) fun t53 =>
      gdQ t50 true (fun k => iaS 3 t52 t53 k) fun t54 =>
      gdQ t50 true (fun k => fa1 t54 0 k) fun t55 =>
      gdQ t50 true (fun k => ld1 w t55 k) fun t56 =>
      gdQ t50 true (fun k => k t0) fun t57 =>
      gdQ t50 true (fun k => k t7) fun t58 =>
      gdQ t50 true (fun k => iaS 3 t57 t58 k) fun t59 =>
      gdQ t50 true (fun k => fa1 t59 1 k) fun t60 =>
      gdQ t50 true (fun k => ld1 w t60 k) fun t61 =>
      gdQ t50 true (fun k => binQ Tryd.prog w .leq 3 false t56 t61 k) fun t62 =>
      pickQ t50 t62 (.bool false) fun t63 =>
      gdQ t63 true (fun k => k t0) fun t65 =>
      gdQ t63 true (fun k => k t7) fun t66 =>
      gdQ t63 true (fun k => iaS 3 t65 t66 k) fun t67 =>
      gdQ t63 true (fun k => fa1 t67 0 k) fun t68 =>
      gdQ t63 true (fun k => ld1 w t68 k) fun t69 =>
      gdQ t63 true (fun k => k t0) fun t70 =>
      gdQ t63 true (fun k => k t6) fun t71 =>
      gdQ t63 true (fun k => iaS 3 t70 t71 k) fun t72 =>
      gdQ t63 true (fun k => fa1 t72 1 k) fun t73 =>
      gdQ t63 true (fun k => ld1 w t73 k) fun t74 =>
      gdQ t63 true (fun k => binQ Tryd.prog w .leq 3 false t69 t74 k) fun t75 =>
      pickQ t63 t75 (.bool false) fun t76 =>
      Join (fun (k_2 : World → Prop) =>
        condW t76 (
          Drew w fun w =>
          iaS 1 t11 t6 fun t79 =>
          ld1 w t79 fun t80 =>
          iaS 1 t11 t7 fun t83 =>
          ld1 w t83 fun t84 =>
          mnQ false [t80, t84] fun t85 =>
          iaS 1 t11 t6 fun t89 =>
          stW Tryd.prog 3 t89 t85 w fun w =>
          iaS 1 t11 t7 fun t93 =>
          stW Tryd.prog 3 t93 t85 w fun w =>
          k_2 w
        ) (
          k_2 w
        )
      ) fun w =>
      binQ Tryd.prog w .add 3 true t7 (.int .i64 1) fun t39_2 =>
      next_4 t39_2 w
    ) (
      binQ Tryd.prog w .add 3 true t6 (.int .i64 1) fun t33 =>
      next_3 t33 w
    )

def S52L2 (t0 t5 t11 : Value) (next_2 : Value → World → Prop) (w : World) : Prop :=
  Loop1 (.int .i64 0) w fun _ t6 w next_3 =>
    ln1 t0 fun t30 =>
    binQ Tryd.prog w .lss 3 false t6 t30 fun t31 =>
    condW t31 (
      S52L3 t0 t6 t11 next_3 w
    ) (
      binQ Tryd.prog w .add 3 true t5 (.int .i64 1) fun t27 =>
      next_2 t27 w
    )

def S52L1 (t0 t11 : Value) (R : Ending → World → Prop) (w : World) : Prop :=
  Loop1 (.int .i64 0) w fun _ t5 w next_2 =>
    ln1 t0 fun t24 =>
    binQ Tryd.prog w .lss 3 false t5 t24 fun t25 =>
    condW t25 (
      S52L2 t0 t5 t11 next_2 w
    ) (
      R (.returned t11) w
    )

def S52L0 (t0 t11 : Value) (R : Ending → World → Prop) (w : World) : Prop :=
  Loop1 (.int .i64 0) w fun _ t4 w next =>
    ln1 t0 fun t14 =>
    binQ Tryd.prog w .lss 3 false t4 t14 fun t15 =>
    condW t15 (
      iaS 1 t11 t4 fun t21 =>
      stW Tryd.prog 3 t21 t4 w fun w =>
      binQ Tryd.prog w .add 3 true t4 (.int .i64 1) fun t17 =>
      next t17 w
    ) (
      S52L1 t0 t11 R w
    )



def S52 (t0 : Value) (w : World) (R : Ending → World → Prop) : Prop :=
  ln1 t0 fun t10 =>
  mkW Tryd.prog 34 t10 t10 w fun t11 w =>
  S52L0 t0 t11 R w

def A52 : Ann where
  live := fun
    | 0 => [4]
    | 2 => [5]
    | 4 => [6]
    | 6 => [7]
    | _ => []
  wr := fun
    | 0 => fun i => Nat.beq i 4 || (Nat.ble 12 i && Nat.ble i 21)
    | 2 => fun i => (Nat.ble 5 i && Nat.ble i 8) || (Nat.ble 22 i && Nat.ble i 93)
    | 4 => fun i => (Nat.ble 6 i && Nat.ble i 8) || (Nat.ble 28 i && Nat.ble i 93)
    | 6 => fun i => (Nat.ble 7 i && Nat.ble i 8) || (Nat.ble 34 i && Nat.ble i 93)
    | _ => fun _ => false
  sched := fun
    | 15 => (.take 0 (.take 1 (.take 2 (.take 3 (.take 4 (.take 5 (.take 6 (.take 7 (.take 8 (.take 9 (.take 10 (.take 11 (.take 12 (.take 13 (.take 14 (.take 15 (.take 16 (.take 17 (.take 18 (.take 19 (.take 20 (.take 21 (.take 22 (.take 23 (.take 24 (.take 25 (.take 26 (.take 27 (.take 28 (.take 29 (.take 30 (.take 31 (.take 32 (.take 33 (.take 34 (.take 35 (.take 36 .done)))))))))))))))))))))))))))))))))))))
    | 16 => (.take 0 (.take 1 (.take 2 (.take 3 (.take 4 (.take 5 (.take 6 (.take 7 (.take 8 (.take 9 .done))))))))))
    | _ => .done

set_option maxRecDepth 100000 in
theorem ok52 : (codeOk Tryd.f52.ntmps A52 (Tryd.f52.body.getD .skip) 0 && Nat.ble 1 Tryd.f52.ntmps) = true := by kernel_rfl
set_option maxRecDepth 100000 in
theorem lift52 {t0 : Value} {w : World} {R : Ending → World → Prop} (h : S52 t0 w R) : Calls Tryd.prog 52 #[t0] w R :=
  calls_of_cw (fn := Tryd.f52) (c := Tryd.f52.body.getD .skip) A52 mixes Tryd.func52 (by kernel_rfl) ok52
    ((by kernel_rfl : (S52 t0 w R) = cw Tryd.prog A52 (Tryd.f52.body.getD .skip) 0 (bodyQ Tryd.prog Tryd.f52 R) (frOf #[t0]) w).mp h)

def S53L0 (t0 t1 t2 : Value) (R : Ending → World → Prop) (w : World) : Prop :=
  Loop2 (.int .i64 0) (.int .i64 0) w fun _ t7 t8 w next =>
    ln1 t0 fun t11 =>
    binQ Tryd.prog w .lss 3 false t8 t11 fun t12 =>
    condW t12 (
      iaS 1 t1 t8 fun t17 =>
      ld1 w t17 fun t18 =>
      binQ Tryd.prog w .eql 3 false t18 t8 fun t20 =>
      gd t20 true (fun k => k t0 w) w fun t22 w =>
      gd t20 true (fun k => k t1 w) w fun t23 w =>
      gd t20 true (fun k => k t8 w) w fun t24 w =>
      gd t20 true (fun k => k t1 w) w fun t25 w =>
      gd t20 true (fun k => k t2 w) w fun t26 w =>
      gd t20 true (fun k => iaS 1 t25 t26 fun v => k v w) w fun t27 w =>
      gd t20 true (fun k => ld1 w t27 fun v => k v w) w fun t28 w =>
      gd t20 true (fun k => callW Tryd.prog (.func (.func 69) #[] #[]) [t22, t23, t24, t28] w k) w fun t29 w =>
      pickQ t20 t29 (.bool false) fun t30 =>
      Join (fun (k_2 : Value → World → Prop) =>
        condW t30 (
          binQ Tryd.prog w .add 3 true t7 (.int .i64 1) fun t32 =>
          k_2 t32 w
        ) (
          k_2 t7 w
        )
      ) fun t7_2 w =>
      binQ Tryd.prog w .add 3 true t8 (.int .i64 1) fun t14_2 =>
      next t7_2 t14_2 w
    ) (
      R (.returned t7) w
    )



def S53 (t0 t1 t2 : Value) (w : World) (R : Ending → World → Prop) : Prop :=
  S53L0 t0 t1 t2 R w

def A53 : Ann where
  live := fun
    | 0 => [7, 8]
    | _ => []
  wr := fun
    | 0 => fun i => (Nat.ble 7 i && Nat.ble i 32)
    | _ => fun _ => false
  sched := fun _ => .done

set_option maxRecDepth 100000 in
theorem ok53 : (codeOk Tryd.f53.ntmps A53 (Tryd.f53.body.getD .skip) 0 && Nat.ble 3 Tryd.f53.ntmps) = true := by kernel_rfl
set_option maxRecDepth 100000 in
theorem lift53 {t0 t1 t2 : Value} {w : World} {R : Ending → World → Prop} (h : S53 t0 t1 t2 w R) : Calls Tryd.prog 53 #[t0, t1, t2] w R :=
  calls_of_cw (fn := Tryd.f53) (c := Tryd.f53.body.getD .skip) A53 mixes Tryd.func53 (by kernel_rfl) ok53
    ((by kernel_rfl : (S53 t0 t1 t2 w R) = cw Tryd.prog A53 (Tryd.f53.body.getD .skip) 0 (bodyQ Tryd.prog Tryd.f53 R) (frOf #[t0, t1, t2]) w).mp h)

def S59L0 (t0 t1 : Value) (R : Ending → World → Prop) (w : World) : Prop :=
  Loop2 (.slice none 0 0) (.int .i64 0) w fun _ t5 t6 w next =>
    ln1 t1 fun t9 =>
    binQ Tryd.prog w .shl 3 true (.int .i64 1) t9 fun t10 =>
    binQ Tryd.prog w .lss 3 false t6 t10 fun t11 =>
    condW t11 (
      callW Tryd.prog (.func (.func 75) #[] #[]) [t6] w fun t15 w =>
      binQ Tryd.prog w .sub 3 true t0 (.int .i64 1) fun t17 =>
      binQ Tryd.prog w .eql 3 false t15 t17 fun t18 =>
      gd t18 true (fun k => k t0 w) w fun t20 w =>
      gd t18 true (fun k => k t1 w) w fun t21 w =>
      gd t18 true (fun k => k t6 w) w fun t22 w =>
      gd t18 true (fun k => callW Tryd.prog (.func (.func 76) #[] #[]) [t20, t21, t22] w k) w fun t23 w =>
      pickQ t18 t23 (.bool false) fun t24 =>
      Join (fun (k_2 : Value → World → Prop) =>
        condW t24 (
          bsW Tryd.prog 34 1 [(0, t6)] w fun t27 w =>
          semW Tryd.prog (apS [34, 34] 34 [t5, t27]) w fun t28 w =>
          k_2 t28 w
        ) (
          k_2 t5 w
        )
      ) fun t5_2 w =>
      binQ Tryd.prog w .add 3 true t6 (.int .i64 1) fun t13_2 =>
      next t5_2 t13_2 w
    ) (
      R (.returned t5) w
    )



def S59 (t0 t1 : Value) (w : World) (R : Ending → World → Prop) : Prop :=
  S59L0 t0 t1 R w

def A59 : Ann where
  live := fun
    | 0 => [5, 6]
    | _ => []
  wr := fun
    | 0 => fun i => (Nat.ble 5 i && Nat.ble i 28)
    | _ => fun _ => false
  sched := fun _ => .done

set_option maxRecDepth 100000 in
theorem ok59 : (codeOk Tryd.f59.ntmps A59 (Tryd.f59.body.getD .skip) 0 && Nat.ble 2 Tryd.f59.ntmps) = true := by kernel_rfl
set_option maxRecDepth 100000 in
theorem lift59 {t0 t1 : Value} {w : World} {R : Ending → World → Prop} (h : S59 t0 t1 w R) : Calls Tryd.prog 59 #[t0, t1] w R :=
  calls_of_cw (fn := Tryd.f59) (c := Tryd.f59.body.getD .skip) A59 mixes Tryd.func59 (by kernel_rfl) ok59
    ((by kernel_rfl : (S59 t0 t1 w R) = cw Tryd.prog A59 (Tryd.f59.body.getD .skip) 0 (bodyQ Tryd.prog Tryd.f59 R) (frOf #[t0, t1]) w).mp h)

def S60L0 (t0 t1 t2 t3 : Value) (R : Ending → World → Prop) (w : World) : Prop :=
  Loop2 (.slice none 0 0) (.int .i64 0) w fun _ t9 t10 w next =>
    ln1 t1 fun t15 =>
    binQ Tryd.prog w .lss 3 false t10 t15 fun t16 =>
    condW t16 (
      Drew w fun w =>
      iaS 2 t1 t10 fun t21 =>
      fa1 t21 0 fun t22 =>
      ld1 w t22 fun t23 =>
      iaS 2 t1 t10 fun t30 =>
      fa1 t30 1 fun t31 =>
      ld1 w t31 fun t32 =>
      callW Tryd.prog (.func (.func 77) #[] #[]) [t23, t0, t2, t3] w <| keepB w fun t27 w =>
      callW Tryd.prog (.func (.func 77) #[] #[]) [t32, t0, t2, t3] w fun t36 w =>
      binQ Tryd.prog w .neq 3 false t27 t36 fun t39 =>
      Join (fun (k_2 : Value → World → Prop) =>
        condW t39 (
          bdQ Tryd.prog 40 [(0, t27), (1, t36)] fun t43 =>
          bsW Tryd.prog 27 1 [(0, t43)] w fun t44 w =>
          semW Tryd.prog (apS [27, 27] 27 [t9, t44]) w fun t45 w =>
          k_2 t45 w
        ) (
          k_2 t9 w
        )
      ) fun t9_2 w =>
      binQ Tryd.prog w .add 3 true t10 (.int .i64 1) fun t18_2 =>
      next t9_2 t18_2 w
    ) (
      R (.returned t9) w
    )



def S60 (t0 t1 t2 t3 : Value) (w : World) (R : Ending → World → Prop) : Prop :=
  S60L0 t0 t1 t2 t3 R w

def A60 : Ann where
  live := fun
    | 0 => [9, 10]
    | _ => []
  wr := fun
    | 0 => fun i => (Nat.ble 9 i && Nat.ble i 45)
    | _ => fun _ => false
  sched := fun
    | 5 => (.take 0 (.take 1 (.take 2 (.take 3 (.take 4 (.take 5 (.take 6 (.take 7 (.take 9 (.take 10 (.take 11 (.take 12 (.take 13 (.take 14 (.take 15 (.take 16 (.eff 8 (.bar 17 (.take 18 (.take 19 .done))))))))))))))))))))
    | _ => .done

set_option maxRecDepth 100000 in
theorem ok60 : (codeOk Tryd.f60.ntmps A60 (Tryd.f60.body.getD .skip) 0 && Nat.ble 4 Tryd.f60.ntmps) = true := by kernel_rfl
set_option maxRecDepth 100000 in
theorem lift60 {t0 t1 t2 t3 : Value} {w : World} {R : Ending → World → Prop} (h : S60 t0 t1 t2 t3 w R) : Calls Tryd.prog 60 #[t0, t1, t2, t3] w R :=
  calls_of_cw (fn := Tryd.f60) (c := Tryd.f60.body.getD .skip) A60 mixes Tryd.func60 (by kernel_rfl) ok60
    ((by kernel_rfl : (S60 t0 t1 t2 t3 w R) = cw Tryd.prog A60 (Tryd.f60.body.getD .skip) 0 (bodyQ Tryd.prog Tryd.f60 R) (frOf #[t0, t1, t2, t3]) w).mp h)

def S61L2 (t1 t2 t3 t13 t14 t21 : Value) (next_2 : Value → Value → World → Prop) (w : World) : Prop :=
  Loop2 t13 (.int .i64 0) w fun _ t13_2 t15 w next_3 =>
    ln1 t1 fun t40 =>
    binQ Tryd.prog w .lss 3 false t15 t40 fun t41 =>
    condW t41 (
      Join (fun (k_2 : Value → World → Prop) =>
        binQ Tryd.prog w .shr 3 false t2 t15 fun t46 =>
        binQ Tryd.prog w .rem 3 true t46 (.int .i64 2) fun t47 =>
        binQ Tryd.prog w .eql 3 true t47 (.int .i64 0) fun t48 =>
        condW t48 (
          k_2 t13_2 w
        ) (
          Drew w fun w =>
          iaS 2 t1 t15 fun t51 =>
          fa1 t51 0 fun t52 =>
          ld1 w t52 fun t53 =>
          iaS 1 t13_2 t14 fun t56 =>
          ld1 w t56 fun t57 =>
          binQ Tryd.prog w .eql 3 false t53 t57 fun t58 =>
          Join (fun (k_4 : Value → World → Prop) =>
            condW t58 (
              iaS 2 t1 t15 fun t61 =>
              fa1 t61 1 fun t62 =>
              ld1 w t62 fun t63 =>
              k_4 t63 w
            ) (
              k_4 (.int .i64 (-1)) w
            )
          ) fun t16_2 w =>
          Drew w fun w =>
          iaS 2 t1 t15 fun t66_2 =>
          fa1 t66_2 1 fun t67_2 =>
          ld1 w t67_2 fun t68_2 =>
          iaS 1 t13_2 t14 fun t71_2 =>
          ld1 w t71_2 fun t72_2 =>
          binQ Tryd.prog w .eql 3 false t68_2 t72_2 fun t73_2 =>
          Join (fun (k_5 : Value → World → Prop) =>
            condW t73_2 (
              iaS 2 t1 t15 fun t76_2 =>
              fa1 t76_2 0 fun t77_2 =>
              ld1 w t77_2 fun t78_2 =>
              k_5 t78_2 w
            ) (
              k_5 t16_2 w
            )
          ) fun t16_3 w =>
          binQ Tryd.prog w .geq 3 true t16_3 (.int .i64 0) fun t80_4 =>
          gd t80_4 true (fun k => k t16_3 w) w fun t82_4 w =>
          gd t80_4 true (fun k => k t3 w) w fun t83_4 w =>
          gd t80_4 true (fun k => binQ Tryd.prog w .neq 3 false t82_4 t83_4 fun v => k v w) w fun t84_4 w =>
          pickQ t80_4 t84_4 (.bool false) fun t85_4 =>
          gd t85_4 true (fun k => k t21 w) w fun t87_4 w =>
          gd t85_4 true (fun k => k t16_3 w) w fun t88_4 w =>
          gd t85_4 true (fun k => iaS 1 t87_4 t88_4 fun v => k v w) w fun t89_4 w =>
          gd t85_4 true (fun k => ld1 w t89_4 fun v => k v w) w fun t90_4 w =>
          gd t85_4 true (fun k => binQ Tryd.prog w .lss 3 true t90_4 (.int .i64 0) fun v => k v w) w fun t91_4 w =>
          pickQ t85_4 t91_4 (.bool false) fun t92_4 =>
          condW t92_4 (
            iaS 1 t21 t16_3 fun t96_4 =>
            stW Tryd.prog 3 t96_4 t15 w fun w =>
            bsW Tryd.prog 34 1 [(0, t16_3)] w fun t99_4 w =>
            semW Tryd.prog (apS [34, 34] 34 [t13_2, t99_4]) w fun t100_4 w =>
            k_2 t100_4 w
          ) (
            k_2 t13_2 w
          )
        )
      ) fun t13_3 w =>
      binQ Tryd.prog w .add 3 true t15 (.int .i64 1) fun t43_2 =>
      next_3 t13_3 t43_2 w
    ) (
      binQ Tryd.prog w .add 3 true t14 (.int .i64 1) fun t37 =>
      next_2 t13_2 t37 w
    )

def S61L3 (t1 t3 t4 t21 t103 : Value) (R : Ending → World → Prop) (w : World) : Prop :=
  Loop1 t4 w fun _ t18 w next_4 =>
    binQ Tryd.prog w .neq 3 false t18 t3 fun t107 =>
    condW t107 (
      iaS 1 t21 t18 fun t110 =>
      ld1 w t110 fun t111 =>
      iaS 2 t1 t111 fun t114 =>
      fa1 t114 1 fun t115 =>
      ld1 w t115 fun t116 =>
      binQ Tryd.prog w .eql 3 false t116 t18 fun t118 =>
      condW t118 (
        iaS 1 t103 t111 fun t121 =>
        stW Tryd.prog 3 t121 (.int .i64 1) w fun w =>
        iaS 2 t1 t111 fun t124 =>
        fa1 t124 0 fun t125 =>
        ld1 w t125 fun t126 =>
        next_4 t126 w
      ) (
        iaS 1 t103 t111 fun t129 =>
        stW Tryd.prog 3 t129 (.int .i64 (-1)) w fun w =>
        iaS 2 t1 t111 fun t132 =>
        fa1 t132 1 fun t133 =>
        ld1 w t133 fun t134 =>
        next_4 t134 w
      )
    ) (
      R (.returned t103) w
    )

def S61L1 (t1 t2 t3 t4 t21 t31 : Value) (R : Ending → World → Prop) (w : World) : Prop :=
  Loop2 t31 (.int .i64 0) w fun _ t13 t14 w next_2 =>
    ln1 t13 fun t34 =>
    binQ Tryd.prog w .lss 3 false t14 t34 fun t35 =>
    condW t35 (
      S61L2 t1 t2 t3 t13 t14 t21 next_2 w
    ) (
      ln1 t1 fun t102 =>
      mkW Tryd.prog 34 t102 t102 w fun t103 w =>
      S61L3 t1 t3 t4 t21 t103 R w
    )

def S61L0 (t0 t1 t2 t3 t4 t21 : Value) (R : Ending → World → Prop) (w : World) : Prop :=
  Loop1 (.int .i64 0) w fun _ t12 w next =>
    binQ Tryd.prog w .lss 3 false t12 t0 fun t24 =>
    condW t24 (
      iaS 1 t21 t12 fun t29 =>
      stW Tryd.prog 3 t29 (.int .i64 (-1)) w fun w =>
      binQ Tryd.prog w .add 3 true t12 (.int .i64 1) fun t26 =>
      next t26 w
    ) (
      bsW Tryd.prog 34 1 [(0, t3)] w fun t31 w =>
      S61L1 t1 t2 t3 t4 t21 t31 R w
    )



def S61 (t0 t1 t2 t3 t4 : Value) (w : World) (R : Ending → World → Prop) : Prop :=
  mkW Tryd.prog 34 t0 t0 w fun t21 w =>
  S61L0 t0 t1 t2 t3 t4 t21 R w

def A61 : Ann where
  live := fun
    | 0 => [12]
    | 2 => [13, 14]
    | 4 => [13, 15]
    | 6 => [18]
    | _ => []
  wr := fun
    | 0 => fun i => Nat.beq i 12 || (Nat.ble 22 i && Nat.ble i 29)
    | 2 => fun i => (Nat.ble 13 i && Nat.ble i 16) || (Nat.ble 32 i && Nat.ble i 100)
    | 4 => fun i => Nat.beq i 13 || (Nat.ble 15 i && Nat.ble i 16) || (Nat.ble 38 i && Nat.ble i 100)
    | 6 => fun i => (Nat.ble 18 i && Nat.ble i 19) || (Nat.ble 105 i && Nat.ble i 134)
    | _ => fun _ => false
  sched := fun
    | 15 => (.take 0 (.take 1 (.take 2 (.take 3 (.take 4 (.take 5 (.take 6 (.take 7 (.take 8 (.take 9 .done))))))))))
    | 17 => (.take 0 (.take 1 (.take 2 (.take 3 (.take 4 (.take 5 (.take 6 (.take 7 (.take 8 (.take 9 .done))))))))))
    | _ => .done

set_option maxRecDepth 100000 in
theorem ok61 : (codeOk Tryd.f61.ntmps A61 (Tryd.f61.body.getD .skip) 0 && Nat.ble 5 Tryd.f61.ntmps) = true := by kernel_rfl
set_option maxRecDepth 100000 in
theorem lift61 {t0 t1 t2 t3 t4 : Value} {w : World} {R : Ending → World → Prop} (h : S61 t0 t1 t2 t3 t4 w R) : Calls Tryd.prog 61 #[t0, t1, t2, t3, t4] w R :=
  calls_of_cw (fn := Tryd.f61) (c := Tryd.f61.body.getD .skip) A61 mixes Tryd.func61 (by kernel_rfl) ok61
    ((by kernel_rfl : (S61 t0 t1 t2 t3 t4 w R) = cw Tryd.prog A61 (Tryd.f61.body.getD .skip) 0 (bodyQ Tryd.prog Tryd.f61 R) (frOf #[t0, t1, t2, t3, t4]) w).mp h)

def S63 (t0 t1 : Value) (w : World) (R : Ending → World → Prop) : Prop :=
  boxW 58 (.agg #[(.int .i64 0), (.int .i64 0)]) w fun t4 w =>
  callW Tryd.prog (.func (.func 79) #[] #[]) [t0, t1] w fun t8 w =>
  Drew w fun w =>
  binQ Tryd.prog w .quo 3 false t0 t8 fun t11 =>
  binQ Tryd.prog w .quo 3 false t1 t8 fun t14 =>
  bdQ Tryd.prog 58 [(0, t11), (1, t14)] fun t15 =>
  stW Tryd.prog 58 t4 t15 w fun w =>
  ldN 2 w t4 fun r =>
  R (.returned r) w

def A63 : Ann where
  live := fun _ => []
  wr := fun _ _ => false
  sched := fun
    | 2 => (.take 0 (.take 1 (.take 2 (.take 3 (.take 4 (.take 5 (.take 6 (.bar 7 .done))))))))
    | _ => .done

set_option maxRecDepth 100000 in
theorem ok63 : (codeOk Tryd.f63.ntmps A63 (Tryd.f63.body.getD .skip) 0 && Nat.ble 2 Tryd.f63.ntmps) = true := by kernel_rfl
set_option maxRecDepth 100000 in
theorem lift63 {t0 t1 : Value} {w : World} {R : Ending → World → Prop} (h : S63 t0 t1 w R) : Calls Tryd.prog 63 #[t0, t1] w R :=
  calls_of_cw (fn := Tryd.f63) (c := Tryd.f63.body.getD .skip) A63 mixes Tryd.func63 (by kernel_rfl) ok63
    ((by kernel_rfl : (S63 t0 t1 w R) = cw Tryd.prog A63 (Tryd.f63.body.getD .skip) 0 (bodyQ Tryd.prog Tryd.f63 R) (frOf #[t0, t1]) w).mp h)

def S69 (t0 t1 t2 t3 : Value) (w : World) (R : Ending → World → Prop) : Prop :=
  Drew w fun w =>
  iaS 3 t0 t2 fun t11 =>
  fa1 t11 2 fun t12 =>
  ld1 w t12 fun t13 =>
  iaS 3 t0 t3 fun t16 =>
  fa1 t16 2 fun t17 =>
  ld1 w t17 fun t18 =>
  binQ Tryd.prog w .neq 3 false t13 t18 fun t19 =>
  condW t19 (
    Drew w fun w =>
    iaS 3 t0 t2 fun t22 =>
    fa1 t22 2 fun t23 =>
    ld1 w t23 fun t24 =>
    iaS 3 t0 t3 fun t27 =>
    fa1 t27 2 fun t28 =>
    ld1 w t28 fun t29 =>
    binQ Tryd.prog w .lss 3 false t24 t29 fun t30 =>
    R (.returned t30) w
  ) (
    callW Tryd.prog (.func (.func 83) #[] #[]) [t0, t1, t2] w fun t34 w =>
    callW Tryd.prog (.func (.func 83) #[] #[]) [t0, t1, t3] w fun t38 w =>
    binQ Tryd.prog w .lss 3 false t34 t38 fun t39 =>
    R (.returned t39) w
  )

def A69 : Ann where
  live := fun _ => []
  wr := fun _ _ => false
  sched := fun
    | 1 => (.take 0 (.take 1 (.take 2 (.take 3 (.take 4 (.take 5 (.take 6 (.take 7 (.take 8 (.take 9 (.take 10 .done)))))))))))
    | 2 => (.take 0 (.take 1 (.take 2 (.take 3 (.take 4 (.take 5 (.take 6 (.take 7 (.take 8 (.take 9 (.take 10 (.take 11 .done))))))))))))
    | _ => .done

set_option maxRecDepth 100000 in
theorem ok69 : (codeOk Tryd.f69.ntmps A69 (Tryd.f69.body.getD .skip) 0 && Nat.ble 4 Tryd.f69.ntmps) = true := by kernel_rfl
set_option maxRecDepth 100000 in
theorem lift69 {t0 t1 t2 t3 : Value} {w : World} {R : Ending → World → Prop} (h : S69 t0 t1 t2 t3 w R) : Calls Tryd.prog 69 #[t0, t1, t2, t3] w R :=
  calls_of_cw (fn := Tryd.f69) (c := Tryd.f69.body.getD .skip) A69 mixes Tryd.func69 (by kernel_rfl) ok69
    ((by kernel_rfl : (S69 t0 t1 t2 t3 w R) = cw Tryd.prog A69 (Tryd.f69.body.getD .skip) 0 (bodyQ Tryd.prog Tryd.f69 R) (frOf #[t0, t1, t2, t3]) w).mp h)

def S75L0 (t0 : Value) (R : Ending → World → Prop) (w : World) : Prop :=
  Loop2 t0 (.int .i64 0) w fun _ t0_2 t3 w next =>
    binQ Tryd.prog w .gtr 3 true t0_2 (.int .i64 0) fun t5 =>
    condW t5 (
      binQ Tryd.prog w .rem 3 true t0_2 (.int .i64 2) fun t10 =>
      binQ Tryd.prog w .add 3 false t3 t10 fun t11 =>
      binQ Tryd.prog w .quo 3 true t0_2 (.int .i64 2) fun t7 =>
      next t7 t11 w
    ) (
      R (.returned t3) w
    )



def S75 (t0 : Value) (w : World) (R : Ending → World → Prop) : Prop :=
  S75L0 t0 R w

def A75 : Ann where
  live := fun
    | 0 => [0, 3]
    | _ => []
  wr := fun
    | 0 => fun i => Nat.beq i 0 || (Nat.ble 3 i && Nat.ble i 11)
    | _ => fun _ => false
  sched := fun _ => .done

set_option maxRecDepth 100000 in
theorem ok75 : (codeOk Tryd.f75.ntmps A75 (Tryd.f75.body.getD .skip) 0 && Nat.ble 1 Tryd.f75.ntmps) = true := by kernel_rfl
set_option maxRecDepth 100000 in
theorem lift75 {t0 : Value} {w : World} {R : Ending → World → Prop} (h : S75 t0 w R) : Calls Tryd.prog 75 #[t0] w R :=
  calls_of_cw (fn := Tryd.f75) (c := Tryd.f75.body.getD .skip) A75 mixes Tryd.func75 (by kernel_rfl) ok75
    ((by kernel_rfl : (S75 t0 w R) = cw Tryd.prog A75 (Tryd.f75.body.getD .skip) 0 (bodyQ Tryd.prog Tryd.f75 R) (frOf #[t0]) w).mp h)

def S76L1 (t0 t1 t2 t14 : Value) (R : Ending → World → Prop) (w : World) : Prop :=
  Loop2 (.int .i64 0) (.int .i64 0) w fun _ t9 t10 w next_2 =>
    ln1 t1 fun t26 =>
    binQ Tryd.prog w .lss 3 false t10 t26 fun t27 =>
    condW t27 (
      Join (fun (k_2 : Value → World → Prop) =>
        binQ Tryd.prog w .shr 3 false t2 t10 fun t32 =>
        binQ Tryd.prog w .rem 3 true t32 (.int .i64 2) fun t33 =>
        binQ Tryd.prog w .eql 3 true t33 (.int .i64 0) fun t34 =>
        condW t34 (
          k_2 t9 w
        ) (
          Drew w fun w =>
          iaS 2 t1 t10 fun t38 =>
          fa1 t38 0 fun t39 =>
          ld1 w t39 fun t40 =>
          iaS 2 t1 t10 fun t45 =>
          fa1 t45 1 fun t46 =>
          ld1 w t46 fun t47 =>
          callW Tryd.prog (.func (.func 88) #[] #[]) [t14, t40] w <| keepB w fun t41 w =>
          callW Tryd.prog (.func (.func 88) #[] #[]) [t14, t47] w fun t48 w =>
          binQ Tryd.prog w .eql 3 false t41 t48 fun t51 =>
          condW t51 (
            R (.returned (.bool false)) w
          ) (
            iaS 1 t14 t41 fun t55 =>
            stW Tryd.prog 3 t55 t48 w fun w =>
            binQ Tryd.prog w .add 3 true t9 (.int .i64 1) fun t57 =>
            k_2 t57 w
          )
        )
      ) fun t9_2 w =>
      binQ Tryd.prog w .add 3 true t10 (.int .i64 1) fun t29_2 =>
      next_2 t9_2 t29_2 w
    ) (
      binQ Tryd.prog w .sub 3 true t0 (.int .i64 1) fun t60 =>
      binQ Tryd.prog w .eql 3 false t9 t60 fun t61 =>
      R (.returned t61) w
    )

def S76L0 (t0 t1 t2 t14 : Value) (R : Ending → World → Prop) (w : World) : Prop :=
  Loop1 (.int .i64 0) w fun _ t8 w next =>
    binQ Tryd.prog w .lss 3 false t8 t0 fun t17 =>
    condW t17 (
      iaS 1 t14 t8 fun t23 =>
      stW Tryd.prog 3 t23 t8 w fun w =>
      binQ Tryd.prog w .add 3 true t8 (.int .i64 1) fun t19 =>
      next t19 w
    ) (
      S76L1 t0 t1 t2 t14 R w
    )



def S76 (t0 t1 t2 : Value) (w : World) (R : Ending → World → Prop) : Prop :=
  mkW Tryd.prog 34 t0 t0 w fun t14 w =>
  S76L0 t0 t1 t2 t14 R w

def A76 : Ann where
  live := fun
    | 0 => [8]
    | 2 => [9, 10]
    | _ => []
  wr := fun
    | 0 => fun i => Nat.beq i 8 || (Nat.ble 15 i && Nat.ble i 23)
    | 2 => fun i => Nat.beq i 6 || (Nat.ble 9 i && Nat.ble i 12) || (Nat.ble 24 i && Nat.ble i 57)
    | _ => fun _ => false
  sched := fun
    | 11 => (.take 0 (.take 1 (.take 2 (.take 3 (.take 4 (.take 5 (.take 7 (.take 8 (.take 9 (.take 10 (.take 11 (.take 12 (.eff 6 (.bar 13 (.take 14 (.take 15 .done))))))))))))))))
    | _ => .done

set_option maxRecDepth 100000 in
theorem ok76 : (codeOk Tryd.f76.ntmps A76 (Tryd.f76.body.getD .skip) 0 && Nat.ble 3 Tryd.f76.ntmps) = true := by kernel_rfl
set_option maxRecDepth 100000 in
theorem lift76 {t0 t1 t2 : Value} {w : World} {R : Ending → World → Prop} (h : S76 t0 t1 t2 w R) : Calls Tryd.prog 76 #[t0, t1, t2] w R :=
  calls_of_cw (fn := Tryd.f76) (c := Tryd.f76.body.getD .skip) A76 mixes Tryd.func76 (by kernel_rfl) ok76
    ((by kernel_rfl : (S76 t0 t1 t2 w R) = cw Tryd.prog A76 (Tryd.f76.body.getD .skip) 0 (bodyQ Tryd.prog Tryd.f76 R) (frOf #[t0, t1, t2]) w).mp h)

def S77 (t0 t1 t2 t3 : Value) (w : World) (R : Ending → World → Prop) : Prop :=
  binQ Tryd.prog w .eql 3 false t0 t3 fun t11 =>
  Join (fun (k_2 : Value → World → Prop) =>
    condW t11 (
      k_2 t2 w
    ) (
      k_2 t0 w
    )
  ) fun t0_2 w =>
  binQ Tryd.prog w .sub 3 true t1 (.int .i64 1) fun t15_2 =>
  binQ Tryd.prog w .eql 3 false t0_2 t15_2 fun t16_2 =>
  gd t16_2 true (fun k => k t3 w) w fun t18_2 w =>
  gd t16_2 true (fun k => k t1 w) w fun t19_2 w =>
  gd t16_2 true (fun k => binQ Tryd.prog w .sub 3 true t19_2 (.int .i64 1) fun v => k v w) w fun t20_2 w =>
  gd t16_2 true (fun k => binQ Tryd.prog w .neq 3 false t18_2 t20_2 fun v => k v w) w fun t21_2 w =>
  pickQ t16_2 t21_2 (.bool false) fun t22_2 =>
  condW t22_2 (
    R (.returned t3) w
  ) (
    R (.returned t0_2) w
  )

def A77 : Ann where
  live := fun _ => []
  wr := fun _ _ => false
  sched := fun _ => .done

set_option maxRecDepth 100000 in
theorem ok77 : (codeOk Tryd.f77.ntmps A77 (Tryd.f77.body.getD .skip) 0 && Nat.ble 4 Tryd.f77.ntmps) = true := by kernel_rfl
set_option maxRecDepth 100000 in
theorem lift77 {t0 t1 t2 t3 : Value} {w : World} {R : Ending → World → Prop} (h : S77 t0 t1 t2 t3 w R) : Calls Tryd.prog 77 #[t0, t1, t2, t3] w R :=
  calls_of_cw (fn := Tryd.f77) (c := Tryd.f77.body.getD .skip) A77 mixes Tryd.func77 (by kernel_rfl) ok77
    ((by kernel_rfl : (S77 t0 t1 t2 t3 w R) = cw Tryd.prog A77 (Tryd.f77.body.getD .skip) 0 (bodyQ Tryd.prog Tryd.f77 R) (frOf #[t0, t1, t2, t3]) w).mp h)

def S79L0 (t0 t1 : Value) (R : Ending → World → Prop) (w : World) : Prop :=
  Loop2 t0 t1 w fun _ t0_2 t1_2 w next =>
    binQ Tryd.prog w .neq 3 true t1_2 (.int .i64 0) fun t6 =>
    condW t6 (
      Drew w fun w =>
      binQ Tryd.prog w .rem 3 false t0_2 t1_2 fun t10 =>
      next t1_2 t10 w
    ) (
      unQ .neg t0_2 fun t13 =>
      mnQ true [t0_2, t13] fun t14 =>
      R (.returned t14) w
    )



def S79 (t0 t1 : Value) (w : World) (R : Ending → World → Prop) : Prop :=
  S79L0 t0 t1 R w

def A79 : Ann where
  live := fun
    | 0 => [0, 1]
    | _ => []
  wr := fun
    | 0 => fun i => (Nat.ble 0 i && Nat.ble i 1) || (Nat.ble 5 i && Nat.ble i 10)
    | _ => fun _ => false
  sched := fun
    | 2 => (.take 0 (.take 1 (.take 2 (.take 3 (.take 4 (.take 5 .done))))))
    | _ => .done

set_option maxRecDepth 100000 in
theorem ok79 : (codeOk Tryd.f79.ntmps A79 (Tryd.f79.body.getD .skip) 0 && Nat.ble 2 Tryd.f79.ntmps) = true := by kernel_rfl
set_option maxRecDepth 100000 in
theorem lift79 {t0 t1 : Value} {w : World} {R : Ending → World → Prop} (h : S79 t0 t1 w R) : Calls Tryd.prog 79 #[t0, t1] w R :=
  calls_of_cw (fn := Tryd.f79) (c := Tryd.f79.body.getD .skip) A79 mixes Tryd.func79 (by kernel_rfl) ok79
    ((by kernel_rfl : (S79 t0 t1 w R) = cw Tryd.prog A79 (Tryd.f79.body.getD .skip) 0 (bodyQ Tryd.prog Tryd.f79 R) (frOf #[t0, t1]) w).mp h)

def S83L0 (t0 t1 t2 t13 : Value) (R : Ending → World → Prop) (w : World) : Prop :=
  Loop2 t13 (.int .i64 0) w fun _ t7 t8 w next =>
    ln1 t0 fun t16 =>
    binQ Tryd.prog w .lss 3 false t8 t16 fun t17 =>
    condW t17 (
      iaS 1 t1 t8 fun t22 =>
      ld1 w t22 fun t23 =>
      binQ Tryd.prog w .eql 3 false t23 t2 fun t25 =>
      Join (fun (k_2 : Value → World → Prop) =>
        condW t25 (
          iaS 3 t0 t8 fun t29 =>
          fa1 t29 0 fun t30 =>
          ld1 w t30 fun t31 =>
          mnQ false [t7, t31] fun t32 =>
          k_2 t32 w
        ) (
          k_2 t7 w
        )
      ) fun t7_2 w =>
      binQ Tryd.prog w .add 3 true t8 (.int .i64 1) fun t19_2 =>
      next t7_2 t19_2 w
    ) (
      R (.returned t7) w
    )



def S83 (t0 t1 t2 : Value) (w : World) (R : Ending → World → Prop) : Prop :=
  iaS 3 t0 t2 fun t11 =>
  fa1 t11 0 fun t12 =>
  ld1 w t12 fun t13 =>
  S83L0 t0 t1 t2 t13 R w

def A83 : Ann where
  live := fun
    | 0 => [7, 8]
    | _ => []
  wr := fun
    | 0 => fun i => (Nat.ble 7 i && Nat.ble i 8) || (Nat.ble 14 i && Nat.ble i 32)
    | _ => fun _ => false
  sched := fun _ => .done

set_option maxRecDepth 100000 in
theorem ok83 : (codeOk Tryd.f83.ntmps A83 (Tryd.f83.body.getD .skip) 0 && Nat.ble 3 Tryd.f83.ntmps) = true := by kernel_rfl
set_option maxRecDepth 100000 in
theorem lift83 {t0 t1 t2 : Value} {w : World} {R : Ending → World → Prop} (h : S83 t0 t1 t2 w R) : Calls Tryd.prog 83 #[t0, t1, t2] w R :=
  calls_of_cw (fn := Tryd.f83) (c := Tryd.f83.body.getD .skip) A83 mixes Tryd.func83 (by kernel_rfl) ok83
    ((by kernel_rfl : (S83 t0 t1 t2 w R) = cw Tryd.prog A83 (Tryd.f83.body.getD .skip) 0 (bodyQ Tryd.prog Tryd.f83 R) (frOf #[t0, t1, t2]) w).mp h)

def S88L0 (t0 t1 : Value) (R : Ending → World → Prop) (w : World) : Prop :=
  Loop1 t1 w fun _ t1_2 w next =>
    iaS 1 t0 t1_2 fun t7 =>
    ld1 w t7 fun t8 =>
    binQ Tryd.prog w .neq 3 false t8 t1_2 fun t10 =>
    condW t10 (
      iaS 1 t0 t1_2 fun t13 =>
      ld1 w t13 fun t14 =>
      next t14 w
    ) (
      R (.returned t1_2) w
    )



def S88 (t0 t1 : Value) (w : World) (R : Ending → World → Prop) : Prop :=
  S88L0 t0 t1 R w

def A88 : Ann where
  live := fun
    | 0 => [1]
    | _ => []
  wr := fun
    | 0 => fun i => Nat.beq i 1 || (Nat.ble 5 i && Nat.ble i 14)
    | _ => fun _ => false
  sched := fun _ => .done

set_option maxRecDepth 100000 in
theorem ok88 : (codeOk Tryd.f88.ntmps A88 (Tryd.f88.body.getD .skip) 0 && Nat.ble 2 Tryd.f88.ntmps) = true := by kernel_rfl
set_option maxRecDepth 100000 in
theorem lift88 {t0 t1 : Value} {w : World} {R : Ending → World → Prop} (h : S88 t0 t1 w R) : Calls Tryd.prog 88 #[t0, t1] w R :=
  calls_of_cw (fn := Tryd.f88) (c := Tryd.f88.body.getD .skip) A88 mixes Tryd.func88 (by kernel_rfl) ok88
    ((by kernel_rfl : (S88 t0 t1 w R) = cw Tryd.prog A88 (Tryd.f88.body.getD .skip) 0 (bodyQ Tryd.prog Tryd.f88 R) (frOf #[t0, t1]) w).mp h)

theorem fok16 : fnOk Tryd.prog 16 = true := by kernel_rfl
theorem fok18 : fnOk Tryd.prog 18 = true := by kernel_rfl
theorem fok45 : fnOk Tryd.prog 45 = true := by kernel_rfl
theorem fok51 : fnOk Tryd.prog 51 = true := by kernel_rfl
theorem fok52 : fnOk Tryd.prog 52 = true := by kernel_rfl
theorem fok53 : fnOk Tryd.prog 53 = true := by kernel_rfl
theorem fok59 : fnOk Tryd.prog 59 = true := by kernel_rfl
theorem fok60 : fnOk Tryd.prog 60 = true := by kernel_rfl
theorem fok61 : fnOk Tryd.prog 61 = true := by kernel_rfl
theorem fok63 : fnOk Tryd.prog 63 = true := by kernel_rfl
theorem fok69 : fnOk Tryd.prog 69 = true := by kernel_rfl
theorem fok75 : fnOk Tryd.prog 75 = true := by kernel_rfl
theorem fok76 : fnOk Tryd.prog 76 = true := by kernel_rfl
theorem fok77 : fnOk Tryd.prog 77 = true := by kernel_rfl
theorem fok79 : fnOk Tryd.prog 79 = true := by kernel_rfl
theorem fok83 : fnOk Tryd.prog 83 = true := by kernel_rfl
theorem fok88 : fnOk Tryd.prog 88 = true := by kernel_rfl
end Go.Proofs.YtkdcldbedbagjaaDoor
