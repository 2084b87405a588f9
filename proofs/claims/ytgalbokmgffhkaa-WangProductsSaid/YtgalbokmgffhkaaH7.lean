/- Contract: WangProducts. -/
import Derived.Test.YtgalbokmgffhkaaH6
import Derived.Test.YtgalbokmgffhkaaD10
import Derived.Test.YtgalbokmgffhkaaB9
set_option linter.all false
namespace Go.Proofs.Ytgalbokmgffhkaa
open Go.Lf Go.RowKit Go.Wg

def prodE (a b : List Tile) : Int := if (setB a && setB b) = true then (if prodF (allP a b) = true then 8 else 0) else 2
def prodL (a b : List Tile) : List Tile := if (setB a && setB b) = true ∧ prodF (allP a b) = false then prodT (allP a b) else []
theorem ProdPost.form {a b : List Tile} {base : Nat} {w : World} {e : Ending} (h : ProdPost a b base w e) : ∃ v, e = .returned (.tuple #[v, .int .i64 (prodE a b)]) ∧ Rd 4 tlC w v (prodL a b) := by
  rcases h with ⟨h, rfl⟩ | ⟨h1, h2, rfl⟩ | ⟨h1, h2, v, rfl, ho⟩
  · refine ⟨nilS, by simp [prodE, h], ?_⟩
    rw [prodL, if_neg (by rw [h]; simp)]
    exact Rd.nil
  · refine ⟨nilS, by simp [prodE, h1, h2], ?_⟩
    rw [prodL, if_neg (by rw [h2]; simp)]
    exact Rd.nil
  · refine ⟨v, by simp [prodE, h1, h2], ?_⟩
    rw [prodL, if_pos ⟨h1, h2⟩]
    exact ho.rd tlC_len
theorem prodL_len (a b : List Tile) : (prodL a b).length ≤ 1000000 := by
  unfold prodL
  split
  · rename_i h
    have h2 := h.2
    simp only [prodF, Bool.or_eq_false_iff, decide_eq_false_iff_not] at h2
    simp only [prodT, List.length_map]
    omega
  · simp

set_option maxRecDepth 100000 in
theorem products_calls {av bv : Value} {a b : List Tile} (w : World) (ha : RdT w av a) (hb : RdT w bv b) : Calls Try.prog 15 #[av, bv] w fun e w' => e = .returned (.bool true) ∧ Kp w w' := by
  have ha' := ha
  have hb' := hb
  obtain ⟨aa, ac, rfl, _⟩ := ha.len
  obtain ⟨ba, bc, rfl, _⟩ := hb.len
  refine lift15 ?_
  unfold S15
  have fin : ∀ (w' : World), Kp w w' → Calls Try.prog 18 #[] w' fun e w'' => e = .returned (.bool true) ∧ Kp w w'' := fun w' k => (law_alive w').mono fun e w'' h => ⟨h.1, Kp.trans k h.2⟩
  by_cases hl : (40 : Int) < (a.length : Int)
  · simp (disch := omega) only [r_ln, r_pick, r_pickT, r_pickF, r_condT, r_condF, r_gdTT, r_gdFF, r_gdTF, r_gdFT, r_gqTT, r_gqFF, r_gqTF, r_gqFT, r_not, r_lss, r_leq, r_gtr, r_geq, r_eql, r_neq, r_add, r_sub, r_min2, r_max2, r_min3, r_max3, r_fa, r_iaS, r_iaA, r_ex2a, r_ex2b, r_ex3a, r_ex3b, r_ex3c, r_nc, r_keepE, Nat.zero_add, Nat.add_zero, Nat.mul_one, Int.toNat_natCast, toNat_sub1, toNat_add1, decide_true, decide_false, Bool.not_true, Bool.not_false, if_true, if_false, Bool.false_eq_true, reduceCtorEq, decide_eq_true hl]
    refine r_use fok18 (fin w (Kp.refl _)) rfl ?_
    rintro _ w1 ⟨rfl, k1⟩
    exact ⟨_, rfl, by first | rfl | trivial, k1⟩
  by_cases hl2 : (40 : Int) < (b.length : Int)
  · simp (disch := omega) only [r_ln, r_pick, r_pickT, r_pickF, r_condT, r_condF, r_gdTT, r_gdFF, r_gdTF, r_gdFT, r_gqTT, r_gqFF, r_gqTF, r_gqFT, r_not, r_lss, r_leq, r_gtr, r_geq, r_eql, r_neq, r_add, r_sub, r_min2, r_max2, r_min3, r_max3, r_fa, r_iaS, r_iaA, r_ex2a, r_ex2b, r_ex3a, r_ex3b, r_ex3c, r_nc, r_keepE, Nat.zero_add, Nat.add_zero, Nat.mul_one, Int.toNat_natCast, toNat_sub1, toNat_add1, decide_true, decide_false, Bool.not_true, Bool.not_false, if_true, if_false, Bool.false_eq_true, reduceCtorEq, hl, decide_eq_true hl2]
    refine r_use fok18 (fin w (Kp.refl _)) rfl ?_
    rintro _ w1 ⟨rfl, k1⟩
    exact ⟨_, rfl, by first | rfl | trivial, k1⟩
  simp (disch := omega) only [r_ln, r_pick, r_pickT, r_pickF, r_condT, r_condF, r_gdTT, r_gdFF, r_gdTF, r_gdFT, r_gqTT, r_gqFF, r_gqTF, r_gqFT, r_not, r_lss, r_leq, r_gtr, r_geq, r_eql, r_neq, r_add, r_sub, r_min2, r_max2, r_min3, r_max3, r_fa, r_iaS, r_iaA, r_ex2a, r_ex2b, r_ex3a, r_ex3b, r_ex3c, r_nc, r_keepE, Nat.zero_add, Nat.add_zero, Nat.mul_one, Int.toNat_natCast, toNat_sub1, toNat_add1, decide_true, decide_false, Bool.not_true, Bool.not_false, if_true, if_false, Bool.false_eq_true, reduceCtorEq, hl, hl2]
  refine r_use fok50 (prod50_calls w ha' hb') rfl ?_
  rintro _ w1 ⟨k1, p1⟩
  obtain ⟨v1, rfl, r1⟩ := p1.form
  refine ⟨_, rfl, ?_⟩
  simp (disch := omega) only [r_ln, r_pick, r_pickT, r_pickF, r_condT, r_condF, r_gdTT, r_gdFF, r_gdTF, r_gdFT, r_gqTT, r_gqFF, r_gqTF, r_gqFT, r_not, r_lss, r_leq, r_gtr, r_geq, r_eql, r_neq, r_add, r_sub, r_min2, r_max2, r_min3, r_max3, r_fa, r_iaS, r_iaA, r_ex2a, r_ex2b, r_ex3a, r_ex3b, r_ex3c, r_nc, r_keepE, Nat.zero_add, Nat.add_zero, Nat.mul_one, Int.toNat_natCast, toNat_sub1, toNat_add1, decide_true, decide_false, Bool.not_true, Bool.not_false, if_true, if_false, Bool.false_eq_true, reduceCtorEq]
  refine r_use fok51 (refprod_calls w1 (ha'.kp k1) (hb'.kp k1)) rfl ?_
  rintro _ w2 ⟨k2, p2⟩
  obtain ⟨v2, rfl, r2⟩ := p2.form
  refine ⟨_, rfl, ?_⟩
  have hself : ∀ x : Int, decide (x = x) = true := fun x => decide_eq_true rfl
  have hselfT : ∀ x : List Tile, decide (x = x) = true := fun x => decide_eq_true rfl
  simp (disch := omega) only [r_ln, r_pick, r_pickT, r_pickF, r_condT, r_condF, r_gdTT, r_gdFF, r_gdTF, r_gdFT, r_gqTT, r_gqFF, r_gqTF, r_gqFT, r_not, r_lss, r_leq, r_gtr, r_geq, r_eql, r_neq, r_add, r_sub, r_min2, r_max2, r_min3, r_max3, r_fa, r_iaS, r_iaA, r_ex2a, r_ex2b, r_ex3a, r_ex3b, r_ex3c, r_nc, r_keepE, Nat.zero_add, Nat.add_zero, Nat.mul_one, Int.toNat_natCast, toNat_sub1, toNat_add1, decide_true, decide_false, Bool.not_true, Bool.not_false, if_true, if_false, Bool.false_eq_true, reduceCtorEq, hself]
  refine r_use fok30 (sets_calls w2 (r1.kp k2) r2 (prodL_len a b)) rfl ?_
  rintro _ w3 ⟨rfl, k3⟩
  refine ⟨_, rfl, ?_⟩
  simp (disch := omega) only [r_ln, r_pick, r_pickT, r_pickF, r_condT, r_condF, r_gdTT, r_gdFF, r_gdTF, r_gdFT, r_gqTT, r_gqFF, r_gqTF, r_gqFT, r_not, r_lss, r_leq, r_gtr, r_geq, r_eql, r_neq, r_add, r_sub, r_min2, r_max2, r_min3, r_max3, r_fa, r_iaS, r_iaA, r_ex2a, r_ex2b, r_ex3a, r_ex3b, r_ex3c, r_nc, r_keepE, Nat.zero_add, Nat.add_zero, Nat.mul_one, Int.toNat_natCast, toNat_sub1, toNat_add1, decide_true, decide_false, Bool.not_true, Bool.not_false, if_true, if_false, Bool.false_eq_true, reduceCtorEq, hselfT]
  refine r_use fok18 (fin w3 (Kp.trans k1 (Kp.trans k2 k3))) rfl ?_
  rintro _ w4 ⟨rfl, k4⟩
  refine ⟨_, rfl, ?_⟩
  simp (disch := omega) only [r_ln, r_pick, r_pickT, r_pickF, r_condT, r_condF, r_gdTT, r_gdFF, r_gdTF, r_gdFT, r_gqTT, r_gqFF, r_gqTF, r_gqFT, r_not, r_lss, r_leq, r_gtr, r_geq, r_eql, r_neq, r_add, r_sub, r_min2, r_max2, r_min3, r_max3, r_fa, r_iaS, r_iaA, r_ex2a, r_ex2b, r_ex3a, r_ex3b, r_ex3c, r_nc, r_keepE, Nat.zero_add, Nat.add_zero, Nat.mul_one, Int.toNat_natCast, toNat_sub1, toNat_add1, decide_true, decide_false, Bool.not_true, Bool.not_false, if_true, if_false, Bool.false_eq_true, reduceCtorEq]
  exact ⟨by first | rfl | trivial, k4⟩

end Go.Proofs.Ytgalbokmgffhkaa
