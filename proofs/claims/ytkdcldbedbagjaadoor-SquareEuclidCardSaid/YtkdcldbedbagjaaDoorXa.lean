/- Contracts: Cut of the program and of the reference; sheet. -/
import Derived.Test.YtkdcldbedbagjaaDoorVa
import Derived.Test.YtkdcldbedbagjaaDoorSe
set_option linter.all false
namespace Go.Proofs.YtkdcldbedbagjaaDoor
open Go.Lf Go.RowKit Go.Dt

/-- The greatest squares that are cut from what is left, at most k. -/
def cutF : Nat → Int → Int → Int → Int → Option (List T3)
  | 0, _, _, w, h => if 0 < w ∧ 0 < h then none else some []
  | k + 1, x, y, w, h => if 0 < w ∧ 0 < h then
      (if h < w then cutF k (x + min w h) y (w - min w h) h else cutF k x (y + min w h) w (h - min w h)).map fun l => (x, y, min w h) :: l
    else some []
def cutS (W H : Int) : List T3 := if rectB W && rectB H then (cutF 16 0 0 W H).getD [] else []
def cutE (W H : Int) : Int := if rectB W && rectB H then (if (cutF 16 0 0 W H).isSome then 0 else 8) else 2

set_option maxRecDepth 100000 in
theorem r_pushS {base : Nat} {w : World} {v : Value} {P : List T3} {p : T3} {K : Value → World → Prop} (h : SqAt base w v P) (hn : P.length + 1 ≤ 1000000) (hb : base ≤ w.heap.size)
    (hk : ∀ v' w', SqAt base w' v' (P ++ [p]) → Chg (fun k => v.ownBlock = some k) w w' → K v' w') :
    bsW Tryd.prog 22 1 [(0, t3V p)] w fun s w => semW Tryd.prog (apS [22, 22] 22 [v, s]) w K :=
  r_pushRec (x := p) (xv := t3V p) (ty := 22) (K := K) slt22 t3C_len rfl (bs22 p _) (t3C_one _) (by omega) h hn hb fun v' w' o1 c1 _ => hk v' w' o1 c1

theorem cutF_pos {k : Nat} {x y w h : Int} (g : 0 < w ∧ 0 < h) : cutF (k + 1) x y w h = (if h < w then cutF k (x + min w h) y (w - min w h) h else cutF k x (y + min w h) w (h - min w h)).map fun l => (x, y, min w h) :: l := if_pos g
theorem map_map_app {α : Type} (o : Option (List α)) (P : List α) (a : α) : (o.map fun l => a :: l).map (P ++ ·) = o.map ((P ++ [a]) ++ ·) := by
  cases o <;> simp
theorem map_app_nil {α : Type} (o : Option (List α)) : o.map (([] : List α) ++ ·) = o := by cases o <;> simp

set_option maxRecDepth 100000 in
theorem Cut_calls (W H : Int) (w : World) : Calls Tryd.prog 34 #[.int .i64 W, .int .i64 H] w fun e w' => Kp w w' ∧ ∃ v, e = .returned (.tuple #[v, .int .i64 (cutE W H)]) ∧ SqAt w.heap.size w' v (cutS W H) := by
  refine lift34 ?_
  unfold S34
  refine r_use fok42 (rect_calls W w) rfl ?_
  rintro _ _ ⟨rfl, rfl⟩
  refine ⟨_, rfl, ?_⟩
  cases hW : rectB W with
  | false =>
    have hE : cutE W H = 2 := by unfold cutE; rw [hW]; rfl
    have hS : cutS W H = [] := by unfold cutS; rw [hW]; rfl
    rw [hE, hS]
    simp (disch := omega) only [r_ln, r_pick, r_pickT, r_pickF, r_condT, r_condF, r_gdTT, r_gdFF, r_gdTF, r_gdFT, r_gqTT, r_gqFF, r_gqTF, r_gqFT, r_not, r_lss, r_leq, r_gtr, r_geq, r_eql, r_neq, r_add, r_sub, r_min2, r_max2, r_min3, r_max3, r_fa, r_iaS, r_iaA, r_ex2a, r_ex2b, r_ex3a, r_ex3b, r_ex3c, r_nc, r_keepE, Nat.zero_add, Nat.add_zero, Nat.mul_one, Int.toNat_natCast, toNat_sub1, toNat_add1, decide_true, decide_false, Bool.not_true, Bool.not_false, if_true, if_false, Bool.false_eq_true, reduceCtorEq, r_gdU]
    exact ⟨Kp.refl _, _, rfl, RecAt.nil⟩
  | true =>
  simp (disch := omega) only [r_ln, r_pick, r_pickT, r_pickF, r_condT, r_condF, r_gdTT, r_gdFF, r_gdTF, r_gdFT, r_gqTT, r_gqFF, r_gqTF, r_gqFT, r_not, r_lss, r_leq, r_gtr, r_geq, r_eql, r_neq, r_add, r_sub, r_min2, r_max2, r_min3, r_max3, r_fa, r_iaS, r_iaA, r_ex2a, r_ex2b, r_ex3a, r_ex3b, r_ex3c, r_nc, r_keepE, Nat.zero_add, Nat.add_zero, Nat.mul_one, Int.toNat_natCast, toNat_sub1, toNat_add1, decide_true, decide_false, Bool.not_true, Bool.not_false, if_true, if_false, Bool.false_eq_true, reduceCtorEq, r_gdU]
  refine r_use fok42 (rect_calls H w) rfl ?_
  rintro _ _ ⟨rfl, rfl⟩
  refine ⟨_, rfl, ?_⟩
  cases hH : rectB H with
  | false =>
    have hE : cutE W H = 2 := by unfold cutE; rw [hW, hH]; rfl
    have hS : cutS W H = [] := by unfold cutS; rw [hW, hH]; rfl
    rw [hE, hS]
    simp (disch := omega) only [r_ln, r_pick, r_pickT, r_pickF, r_condT, r_condF, r_gdTT, r_gdFF, r_gdTF, r_gdFT, r_gqTT, r_gqFF, r_gqTF, r_gqFT, r_not, r_lss, r_leq, r_gtr, r_geq, r_eql, r_neq, r_add, r_sub, r_min2, r_max2, r_min3, r_max3, r_fa, r_iaS, r_iaA, r_ex2a, r_ex2b, r_ex3a, r_ex3b, r_ex3c, r_nc, r_keepE, Nat.zero_add, Nat.add_zero, Nat.mul_one, Int.toNat_natCast, toNat_sub1, toNat_add1, decide_true, decide_false, Bool.not_true, Bool.not_false, if_true, if_false, Bool.false_eq_true, reduceCtorEq, r_gdU]
    exact ⟨Kp.refl _, _, rfl, RecAt.nil⟩
  | true =>
  simp (disch := omega) only [r_ln, r_pick, r_pickT, r_pickF, r_condT, r_condF, r_gdTT, r_gdFF, r_gdTF, r_gdFT, r_gqTT, r_gqFF, r_gqTF, r_gqFT, r_not, r_lss, r_leq, r_gtr, r_geq, r_eql, r_neq, r_add, r_sub, r_min2, r_max2, r_min3, r_max3, r_fa, r_iaS, r_iaA, r_ex2a, r_ex2b, r_ex3a, r_ex3b, r_ex3c, r_nc, r_keepE, Nat.zero_add, Nat.add_zero, Nat.mul_one, Int.toNat_natCast, toNat_sub1, toNat_add1, decide_true, decide_false, Bool.not_true, Bool.not_false, if_true, if_false, Bool.false_eq_true, reduceCtorEq, r_gdU]
  have hE : cutE W H = if (cutF 16 0 0 W H).isSome then 0 else 8 := by unfold cutE; rw [hW, hH]; rfl
  have hS : cutS W H = (cutF 16 0 0 W H).getD [] := by unfold cutS; rw [hW, hH]; rfl
  have bW := of_decide_eq_true hW
  have bH := of_decide_eq_true hH
  rw [hE, hS]
  unfold S34L0
  refine ⟨fun t6 t7 t8 wr => ∃ (P : List T3) (k : Nat) (x y : Int), t7 = .int .i64 x ∧ t8 = .int .i64 y ∧ P.length + k = 16 ∧ 0 ≤ x ∧ x ≤ W ∧ 0 ≤ y ∧ y ≤ H ∧
      cutF 16 0 0 W H = (cutF k x y (W - x) (H - y)).map (P ++ ·) ∧ SqAt w.heap.size wr t6 P ∧ Kp w wr,
    fun _ t7 t8 _ => (W - intOf t7).toNat + (H - intOf t8).toNat, ⟨[], 16, 0, 0, rfl, rfl, rfl, by omega, by omega, by omega, by omega, by rw [map_app_nil]; simp, RecAt.nil, Kp.refl _⟩, ?_⟩
  rintro _ t6 _ _ wr ⟨P, k, x, y, rfl, rfl, hk, x0, x1, y0, y1, hF, hP, kr⟩
  obtain ⟨pa, pc, ep, _⟩ := hP.len
  have ln6 : ∀ K : Value → Prop, ln1 t6 K = K (.int .i64 P.length) := fun K => by rw [ep]; rfl
  have hsz := kr.size
  have mn : ∀ (a b : Int) (K : Value → Prop), mnQ false [.int .i64 a, .int .i64 b] K = K (.int .i64 (min a b)) := fun a b K => r_min2 _ _ _
  have stop : ¬ (0 < W - x ∧ 0 < H - y) → cutF 16 0 0 W H = some P := fun h => by
    rw [hF]
    cases k <;> (unfold cutF; rw [if_neg h]; simp)
  by_cases hx : x < W
  case neg =>
    rw [stop (by omega)]
    simp (disch := omega) only [r_ln, r_pick, r_pickT, r_pickF, r_condT, r_condF, r_gdTT, r_gdFF, r_gdTF, r_gdFT, r_gqTT, r_gqFF, r_gqTF, r_gqFT, r_not, r_lss, r_leq, r_gtr, r_geq, r_eql, r_neq, r_add, r_sub, r_min2, r_max2, r_min3, r_max3, r_fa, r_iaS, r_iaA, r_ex2a, r_ex2b, r_ex3a, r_ex3b, r_ex3c, r_nc, r_keepE, Nat.zero_add, Nat.add_zero, Nat.mul_one, Int.toNat_natCast, toNat_sub1, toNat_add1, decide_true, decide_false, Bool.not_true, Bool.not_false, if_true, if_false, Bool.false_eq_true, reduceCtorEq, r_gdU, hx]
    exact ⟨kr, _, rfl, hP⟩
  by_cases hy : y < H
  case neg =>
    rw [stop (by omega)]
    simp (disch := omega) only [r_ln, r_pick, r_pickT, r_pickF, r_condT, r_condF, r_gdTT, r_gdFF, r_gdTF, r_gdFT, r_gqTT, r_gqFF, r_gqTF, r_gqFT, r_not, r_lss, r_leq, r_gtr, r_geq, r_eql, r_neq, r_add, r_sub, r_min2, r_max2, r_min3, r_max3, r_fa, r_iaS, r_iaA, r_ex2a, r_ex2b, r_ex3a, r_ex3b, r_ex3c, r_nc, r_keepE, Nat.zero_add, Nat.add_zero, Nat.mul_one, Int.toNat_natCast, toNat_sub1, toNat_add1, decide_true, decide_false, Bool.not_true, Bool.not_false, if_true, if_false, Bool.false_eq_true, reduceCtorEq, r_gdU, hx, hy]
    exact ⟨kr, _, rfl, hP⟩
  match k, hk, hF with
  | 0, hk, hF =>
    have h16 : (P.length : Int) = 16 := by omega
    rw [show cutF 16 0 0 W H = none by rw [hF]; unfold cutF; rw [if_pos (by omega)]; rfl]
    simp (disch := omega) only [r_ln, r_pick, r_pickT, r_pickF, r_condT, r_condF, r_gdTT, r_gdFF, r_gdTF, r_gdFT, r_gqTT, r_gqFF, r_gqTF, r_gqFT, r_not, r_lss, r_leq, r_gtr, r_geq, r_eql, r_neq, r_add, r_sub, r_min2, r_max2, r_min3, r_max3, r_fa, r_iaS, r_iaA, r_ex2a, r_ex2b, r_ex3a, r_ex3b, r_ex3c, r_nc, r_keepE, Nat.zero_add, Nat.add_zero, Nat.mul_one, Int.toNat_natCast, toNat_sub1, toNat_add1, decide_true, decide_false, Bool.not_true, Bool.not_false, if_true, if_false, Bool.false_eq_true, reduceCtorEq, r_gdU, hx, hy, ln6, h16]
    exact ⟨kr, _, rfl, RecAt.nil⟩
  | k + 1, hk, hF =>
  have h16 : ¬ (P.length : Int) = 16 := by omega
  rw [cutF_pos (k := k) (by omega)] at hF
  simp (disch := omega) only [r_ln, r_pick, r_pickT, r_pickF, r_condT, r_condF, r_gdTT, r_gdFF, r_gdTF, r_gdFT, r_gqTT, r_gqFF, r_gqTF, r_gqFT, r_not, r_lss, r_leq, r_gtr, r_geq, r_eql, r_neq, r_add, r_sub, r_min2, r_max2, r_min3, r_max3, r_fa, r_iaS, r_iaA, r_ex2a, r_ex2b, r_ex3a, r_ex3b, r_ex3c, r_nc, r_keepE, Nat.zero_add, Nat.add_zero, Nat.mul_one, Int.toNat_natCast, toNat_sub1, toNat_add1, decide_true, decide_false, Bool.not_true, Bool.not_false, if_true, if_false, Bool.false_eq_true, reduceCtorEq, r_gdU, hx, hy, ln6, h16, mn]
  rw [bd44]
  refine r_pushS hP (by omega) (by omega) fun v' w' o1 c1 => ?_
  have k1 : Kp w w' := Kp.of_chg kr c1 fun q hq => (hP.lt hq).1
  by_cases hgt : H - y < W - x
  · have hm : min (W - x) (H - y) = H - y := by omega
    rw [if_pos hgt, map_map_app] at hF
    simp (disch := omega) only [r_ln, r_pick, r_pickT, r_pickF, r_condT, r_condF, r_gdTT, r_gdFF, r_gdTF, r_gdFT, r_gqTT, r_gqFF, r_gqTF, r_gqFT, r_not, r_lss, r_leq, r_gtr, r_geq, r_eql, r_neq, r_add, r_sub, r_min2, r_max2, r_min3, r_max3, r_fa, r_iaS, r_iaA, r_ex2a, r_ex2b, r_ex3a, r_ex3b, r_ex3c, r_nc, r_keepE, Nat.zero_add, Nat.add_zero, Nat.mul_one, Int.toNat_natCast, toNat_sub1, toNat_add1, decide_true, decide_false, Bool.not_true, Bool.not_false, if_true, if_false, Bool.false_eq_true, reduceCtorEq, hgt, hm]
    refine ⟨⟨P ++ [_], k, x + (H - y), y, rfl, rfl, by simp; omega, by omega, by omega, by omega, by omega, ?_, by rw [hm] at o1; exact o1, k1⟩, by simp only [intOf]; omega⟩
    rw [hF, hm]
    congr 2
    omega
  · have hm : min (W - x) (H - y) = W - x := by omega
    rw [if_neg hgt, map_map_app] at hF
    simp (disch := omega) only [r_ln, r_pick, r_pickT, r_pickF, r_condT, r_condF, r_gdTT, r_gdFF, r_gdTF, r_gdFT, r_gqTT, r_gqFF, r_gqTF, r_gqFT, r_not, r_lss, r_leq, r_gtr, r_geq, r_eql, r_neq, r_add, r_sub, r_min2, r_max2, r_min3, r_max3, r_fa, r_iaS, r_iaA, r_ex2a, r_ex2b, r_ex3a, r_ex3b, r_ex3c, r_nc, r_keepE, Nat.zero_add, Nat.add_zero, Nat.mul_one, Int.toNat_natCast, toNat_sub1, toNat_add1, decide_true, decide_false, Bool.not_true, Bool.not_false, if_true, if_false, Bool.false_eq_true, reduceCtorEq, hgt, hm]
    refine ⟨⟨P ++ [_], k, x, y + (W - x), rfl, rfl, by simp; omega, by omega, by omega, by omega, by omega, ?_, by rw [hm] at o1; exact o1, k1⟩, by simp only [intOf]; omega⟩
    rw [hF, hm]
    congr 2
    omega

set_option maxRecDepth 100000 in
theorem sheet_calls (W H : Int) (w : World) : Calls Tryd.prog 44 #[.int .i64 W, .int .i64 H] w fun e w' => e = .returned (.bool (rectB W && rectB H)) ∧ w = w' := by
  refine lift44 ?_
  unfold S44
  unfold rectB
  by_cases a1 : 1 ≤ W <;> by_cases a2 : W ≤ 1000 <;> by_cases a3 : 1 ≤ H <;> by_cases a4 : H ≤ 1000 <;> simp [r_ln, r_pick, r_pickT, r_pickF, r_condT, r_condF, r_gdTT, r_gdFF, r_gdTF, r_gdFT, r_gqTT, r_gqFF, r_gqTF, r_gqFT, r_not, r_lss, r_leq, r_gtr, r_geq, r_eql, r_neq, r_add, r_sub, r_min2, r_max2, r_min3, r_max3, r_fa, r_iaS, r_iaA, r_ex2a, r_ex2b, r_ex3a, r_ex3b, r_ex3c, r_nc, r_keepE, Nat.zero_add, Nat.add_zero, Nat.mul_one, Int.toNat_natCast, toNat_sub1, toNat_add1, decide_true, decide_false, Bool.not_true, Bool.not_false, if_true, if_false, Bool.false_eq_true, reduceCtorEq, r_gdU, a1, a2, a3, a4]

set_option maxRecDepth 100000 in
theorem rCut_calls (W H : Int) (w : World) : Calls Tryd.prog 35 #[.int .i64 W, .int .i64 H] w fun e w' => Kp w w' ∧ ∃ v, e = .returned (.tuple #[v, .int .i64 (cutE W H)]) ∧ SqAt w.heap.size w' v (cutS W H) := by
  refine lift35 ?_
  unfold S35
  refine r_use fok44 (sheet_calls W H w) rfl ?_
  rintro _ _ ⟨rfl, rfl⟩
  refine ⟨_, rfl, ?_⟩
  cases hB : rectB W && rectB H with
  | false =>
    have hE : cutE W H = 2 := by unfold cutE; rw [hB]; rfl
    have hS : cutS W H = [] := by unfold cutS; rw [hB]; rfl
    rw [hE, hS]
    simp (disch := omega) only [r_ln, r_pick, r_pickT, r_pickF, r_condT, r_condF, r_gdTT, r_gdFF, r_gdTF, r_gdFT, r_gqTT, r_gqFF, r_gqTF, r_gqFT, r_not, r_lss, r_leq, r_gtr, r_geq, r_eql, r_neq, r_add, r_sub, r_min2, r_max2, r_min3, r_max3, r_fa, r_iaS, r_iaA, r_ex2a, r_ex2b, r_ex3a, r_ex3b, r_ex3c, r_nc, r_keepE, Nat.zero_add, Nat.add_zero, Nat.mul_one, Int.toNat_natCast, toNat_sub1, toNat_add1, decide_true, decide_false, Bool.not_true, Bool.not_false, if_true, if_false, Bool.false_eq_true, reduceCtorEq, r_gdU]
    exact ⟨Kp.refl _, _, rfl, RecAt.nil⟩
  | true =>
  simp (disch := omega) only [r_ln, r_pick, r_pickT, r_pickF, r_condT, r_condF, r_gdTT, r_gdFF, r_gdTF, r_gdFT, r_gqTT, r_gqFF, r_gqTF, r_gqFT, r_not, r_lss, r_leq, r_gtr, r_geq, r_eql, r_neq, r_add, r_sub, r_min2, r_max2, r_min3, r_max3, r_fa, r_iaS, r_iaA, r_ex2a, r_ex2b, r_ex3a, r_ex3b, r_ex3c, r_nc, r_keepE, Nat.zero_add, Nat.add_zero, Nat.mul_one, Int.toNat_natCast, toNat_sub1, toNat_add1, decide_true, decide_false, Bool.not_true, Bool.not_false, if_true, if_false, Bool.false_eq_true, reduceCtorEq, r_gdU]
  have hE : cutE W H = if (cutF 16 0 0 W H).isSome then 0 else 8 := by unfold cutE; rw [hB]; rfl
  have hS : cutS W H = (cutF 16 0 0 W H).getD [] := by unfold cutS; rw [hB]; rfl
  rw [Bool.and_eq_true] at hB
  have bW := of_decide_eq_true hB.1
  have bH := of_decide_eq_true hB.2
  rw [hE, hS]
  unfold S35L0
  refine ⟨fun t0 t1 t6 t7 t8 wr => ∃ (P : List T3) (k : Nat) (x y a b : Int), t0 = .int .i64 a ∧ t1 = .int .i64 b ∧ t7 = .int .i64 x ∧ t8 = .int .i64 y ∧ P.length + k = 16 ∧ 0 ≤ x ∧ x + a = W ∧ 0 ≤ a ∧ 0 ≤ y ∧ y + b = H ∧ 0 ≤ b ∧
      cutF 16 0 0 W H = (cutF k x y a b).map (P ++ ·) ∧ SqAt w.heap.size wr t6 P ∧ Kp w wr,
    fun t0 t1 _ _ _ _ => (intOf t0).toNat + (intOf t1).toNat, ⟨[], 16, 0, 0, W, H, rfl, rfl, rfl, rfl, rfl, by omega, by omega, by omega, by omega, by omega, by omega, by rw [map_app_nil], RecAt.nil, Kp.refl _⟩, ?_⟩
  rintro _ _ _ t6 _ _ wr ⟨P, k, x, y, a, b, rfl, rfl, rfl, rfl, hk, x0, x1, a0, y0, y1, b0, hF, hP, kr⟩
  obtain ⟨pa, pc, ep, _⟩ := hP.len
  have ln6 : ∀ K : Value → Prop, ln1 t6 K = K (.int .i64 P.length) := fun K => by rw [ep]; rfl
  have hsz := kr.size
  have mn : ∀ (a b : Int) (K : Value → Prop), mnQ false [.int .i64 a, .int .i64 b] K = K (.int .i64 (min a b)) := fun a b K => r_min2 _ _ _
  have stop : ¬ (0 < a ∧ 0 < b) → cutF 16 0 0 W H = some P := fun h => by
    rw [hF]
    cases k <;> (unfold cutF; rw [if_neg h]; simp)
  by_cases hx : 0 < a
  case neg =>
    rw [stop (by omega)]
    simp (disch := omega) only [r_ln, r_pick, r_pickT, r_pickF, r_condT, r_condF, r_gdTT, r_gdFF, r_gdTF, r_gdFT, r_gqTT, r_gqFF, r_gqTF, r_gqFT, r_not, r_lss, r_leq, r_gtr, r_geq, r_eql, r_neq, r_add, r_sub, r_min2, r_max2, r_min3, r_max3, r_fa, r_iaS, r_iaA, r_ex2a, r_ex2b, r_ex3a, r_ex3b, r_ex3c, r_nc, r_keepE, Nat.zero_add, Nat.add_zero, Nat.mul_one, Int.toNat_natCast, toNat_sub1, toNat_add1, decide_true, decide_false, Bool.not_true, Bool.not_false, if_true, if_false, Bool.false_eq_true, reduceCtorEq, r_gdU, hx]
    exact ⟨kr, _, rfl, hP⟩
  by_cases hy : 0 < b
  case neg =>
    rw [stop (by omega)]
    simp (disch := omega) only [r_ln, r_pick, r_pickT, r_pickF, r_condT, r_condF, r_gdTT, r_gdFF, r_gdTF, r_gdFT, r_gqTT, r_gqFF, r_gqTF, r_gqFT, r_not, r_lss, r_leq, r_gtr, r_geq, r_eql, r_neq, r_add, r_sub, r_min2, r_max2, r_min3, r_max3, r_fa, r_iaS, r_iaA, r_ex2a, r_ex2b, r_ex3a, r_ex3b, r_ex3c, r_nc, r_keepE, Nat.zero_add, Nat.add_zero, Nat.mul_one, Int.toNat_natCast, toNat_sub1, toNat_add1, decide_true, decide_false, Bool.not_true, Bool.not_false, if_true, if_false, Bool.false_eq_true, reduceCtorEq, r_gdU, hx, hy]
    exact ⟨kr, _, rfl, hP⟩
  match k, hk, hF with
  | 0, hk, hF =>
    have h16 : (P.length : Int) = 16 := by omega
    rw [show cutF 16 0 0 W H = none by rw [hF]; unfold cutF; rw [if_pos (by omega)]; rfl]
    simp (disch := omega) only [r_ln, r_pick, r_pickT, r_pickF, r_condT, r_condF, r_gdTT, r_gdFF, r_gdTF, r_gdFT, r_gqTT, r_gqFF, r_gqTF, r_gqFT, r_not, r_lss, r_leq, r_gtr, r_geq, r_eql, r_neq, r_add, r_sub, r_min2, r_max2, r_min3, r_max3, r_fa, r_iaS, r_iaA, r_ex2a, r_ex2b, r_ex3a, r_ex3b, r_ex3c, r_nc, r_keepE, Nat.zero_add, Nat.add_zero, Nat.mul_one, Int.toNat_natCast, toNat_sub1, toNat_add1, decide_true, decide_false, Bool.not_true, Bool.not_false, if_true, if_false, Bool.false_eq_true, reduceCtorEq, r_gdU, hx, hy, ln6, h16]
    exact ⟨kr, _, rfl, RecAt.nil⟩
  | k + 1, hk, hF =>
  have h16 : ¬ (P.length : Int) = 16 := by omega
  rw [cutF_pos (k := k) (by omega)] at hF
  simp (disch := omega) only [r_ln, r_pick, r_pickT, r_pickF, r_condT, r_condF, r_gdTT, r_gdFF, r_gdTF, r_gdFT, r_gqTT, r_gqFF, r_gqTF, r_gqFT, r_not, r_lss, r_leq, r_gtr, r_geq, r_eql, r_neq, r_add, r_sub, r_min2, r_max2, r_min3, r_max3, r_fa, r_iaS, r_iaA, r_ex2a, r_ex2b, r_ex3a, r_ex3b, r_ex3c, r_nc, r_keepE, Nat.zero_add, Nat.add_zero, Nat.mul_one, Int.toNat_natCast, toNat_sub1, toNat_add1, decide_true, decide_false, Bool.not_true, Bool.not_false, if_true, if_false, Bool.false_eq_true, reduceCtorEq, r_gdU, hx, hy, ln6, h16, mn]
  rw [bd44]
  refine r_pushS hP (by omega) (by omega) fun v' w' o1 c1 => ?_
  have k1 : Kp w w' := Kp.of_chg kr c1 fun q hq => (hP.lt hq).1
  by_cases hgt : b < a
  · have hm : min a b = b := by omega
    rw [if_pos hgt, map_map_app, hm] at hF
    rw [hm] at o1
    simp (disch := omega) only [r_ln, r_pick, r_pickT, r_pickF, r_condT, r_condF, r_gdTT, r_gdFF, r_gdTF, r_gdFT, r_gqTT, r_gqFF, r_gqTF, r_gqFT, r_not, r_lss, r_leq, r_gtr, r_geq, r_eql, r_neq, r_add, r_sub, r_min2, r_max2, r_min3, r_max3, r_fa, r_iaS, r_iaA, r_ex2a, r_ex2b, r_ex3a, r_ex3b, r_ex3c, r_nc, r_keepE, Nat.zero_add, Nat.add_zero, Nat.mul_one, Int.toNat_natCast, toNat_sub1, toNat_add1, decide_true, decide_false, Bool.not_true, Bool.not_false, if_true, if_false, Bool.false_eq_true, reduceCtorEq, hgt, hm]
    exact ⟨⟨P ++ [_], k, x + b, y, a - b, b, rfl, rfl, rfl, rfl, by simp; omega, by omega, by omega, by omega, by omega, by omega, by omega, hF, o1, k1⟩, by simp only [intOf]; omega⟩
  · have hm : min a b = a := by omega
    rw [if_neg hgt, map_map_app, hm] at hF
    rw [hm] at o1
    simp (disch := omega) only [r_ln, r_pick, r_pickT, r_pickF, r_condT, r_condF, r_gdTT, r_gdFF, r_gdTF, r_gdFT, r_gqTT, r_gqFF, r_gqTF, r_gqFT, r_not, r_lss, r_leq, r_gtr, r_geq, r_eql, r_neq, r_add, r_sub, r_min2, r_max2, r_min3, r_max3, r_fa, r_iaS, r_iaA, r_ex2a, r_ex2b, r_ex3a, r_ex3b, r_ex3c, r_nc, r_keepE, Nat.zero_add, Nat.add_zero, Nat.mul_one, Int.toNat_natCast, toNat_sub1, toNat_add1, decide_true, decide_false, Bool.not_true, Bool.not_false, if_true, if_false, Bool.false_eq_true, reduceCtorEq, hgt, hm]
    exact ⟨⟨P ++ [_], k, x, y + a, a, b - a, rfl, rfl, rfl, rfl, by simp; omega, by omega, by omega, by omega, by omega, by omega, by omega, hF, o1, k1⟩, by simp only [intOf]; omega⟩

theorem cut_len {k : Nat} : ∀ {x y w h : Int} {l : List T3}, cutF k x y w h = some l → l.length ≤ k := by
  induction k with
  | zero =>
    intro x y w h l e
    unfold cutF at e
    split at e
    · cases e
    · cases e; simp
  | succ k ih =>
    intro x y w h l e
    unfold cutF at e
    split at e
    · split at e <;>
      · rw [Option.map_eq_some_iff] at e
        obtain ⟨l', h1, rfl⟩ := e
        have := ih h1
        simp only [List.length_cons]
        omega
    · cases e; simp
theorem cutS_len (W H : Int) : (cutS W H).length ≤ 16 := by
  unfold cutS
  split
  · cases h : cutF 16 0 0 W H with
    | none => simp
    | some l => exact cut_len h
  · simp

set_option maxRecDepth 100000 in
theorem law_cuts (W H : Int) (w : World) (hw : Wh w) : Calls Tryd.prog 8 #[.int .i64 W, .int .i64 H] w fun e w' => e = .returned (.bool true) ∧ Kp w w' := by
  refine lift8 ?_
  unfold S8
  refine r_use fok34 (Cut_calls W H w) rfl ?_
  rintro _ w1 ⟨k1, v1, rfl, o1⟩
  refine ⟨_, rfl, ?_⟩
  rw [r_ex2a, r_ex2b]
  refine r_use fok35 (rCut_calls W H w1) rfl ?_
  rintro _ w2 ⟨k2, v2, rfl, o2⟩
  refine ⟨_, rfl, ?_⟩
  rw [r_ex2a, r_ex2b]
  have hl := cutS_len W H
  refine r_use fok20 (squares_calls w2 ((o1.kp k2).rd t3C_len) (o2.rd t3C_len) (by omega)) rfl ?_
  rintro _ w3 ⟨rfl, k3⟩
  refine ⟨_, rfl, ?_⟩
  have k03 := Kp.trans k1 (Kp.trans k2 k3)
  rw [decide_eq_true rfl]
  simp only [r_ln, r_pick, r_pickT, r_pickF, r_condT, r_condF, r_gdTT, r_gdFF, r_gdTF, r_gdFT, r_gqTT, r_gqFF, r_gqTF, r_gqFT, r_not, r_lss, r_leq, r_gtr, r_geq, r_eql, r_neq, r_add, r_sub, r_min2, r_max2, r_min3, r_max3, r_fa, r_iaS, r_iaA, r_ex2a, r_ex2b, r_ex3a, r_ex3b, r_ex3c, r_nc, r_keepE, Nat.zero_add, Nat.add_zero, Nat.mul_one, Int.toNat_natCast, toNat_sub1, toNat_add1, decide_true, decide_false, Bool.not_true, Bool.not_false, if_true, if_false, Bool.false_eq_true, reduceCtorEq]
  refine r_use fok14 (alive_calls w3 (hw.kp k03)) rfl ?_
  rintro _ w4 ⟨rfl, k4⟩
  refine ⟨_, rfl, ?_⟩
  exact ⟨rfl, Kp.trans k03 k4⟩

end Go.Proofs.YtkdcldbedbagjaaDoor
