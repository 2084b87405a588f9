/- Texts of my own, merged by program: H7 E7 O2. -/
import Derived.Test.YtgalbokmgffhkaaN21
import Derived.Test.YtgalbokmgffhkaaN12
import Derived.Test.YtgalbokmgffhkaaN17
import Derived.Test.YtgalbokmgffhkaaN14
import Derived.Test.YtgalbokmgffhkaaN15
import Derived.Test.YtgalbokmgffhkaaN18
set_option linter.all false
/- Contract: WangProducts. -/
namespace Go.Proofs.Ytgalbokmgffhkaa
open Go.Lf Go.RowKit Go.Wg

def prodE (a b : List Tile) : Int := if (setB a && setB b) = true then (if prodF (allP a b) = true then 8 else 0) else 2
def prodL (a b : List Tile) : List Tile := if (setB a && setB b) = true ∧ prodF (allP a b) = false then prodT (allP a b) else []
theorem ProdPost.form {a b : List Tile} {base : Nat} {w : World} {e : Ending} (h : ProdPost a b base w e) : ∃ v, e = .returned (.tuple #[v, .int .i64 (prodE a b)]) ∧ Rd 4 tlC w v (prodL a b) := by
  rcases h with ⟨h, rfl⟩ | ⟨h1, h2, rfl⟩ | ⟨h1, h2, v, rfl, ho⟩
  · refine ⟨nilS, by simp [prodE, h], ?_⟩
    rw [prodL, if_neg (by rw [h]; simp)]
    exact Rd.nil
  · refine ⟨nilS, by simp [prodE, h1, h2], ?_⟩
    rw [prodL, if_neg (by rw [h2]; simp)]
    exact Rd.nil
  · refine ⟨v, by simp [prodE, h1, h2], ?_⟩
    rw [prodL, if_pos ⟨h1, h2⟩]
    exact ho.rd tlC_len
theorem prodL_len (a b : List Tile) : (prodL a b).length ≤ 1000000 := by
  unfold prodL
  split
  · rename_i h
    have h2 := h.2
    simp only [prodF, Bool.or_eq_false_iff, decide_eq_false_iff_not] at h2
    simp only [prodT, List.length_map]
    omega
  · simp

set_option maxRecDepth 100000 in
theorem products_calls {av bv : Value} {a b : List Tile} (w : World) (ha : RdT w av a) (hb : RdT w bv b) : Calls Try.prog 15 #[av, bv] w fun e w' => e = .returned (.bool true) ∧ Kp w w' := by
  have ha' := ha
  have hb' := hb
  obtain ⟨aa, ac, rfl, _⟩ := ha.len
  obtain ⟨ba, bc, rfl, _⟩ := hb.len
  refine lift15 ?_
  unfold S15
  have fin : ∀ (w' : World), Kp w w' → Calls Try.prog 18 #[] w' fun e w'' => e = .returned (.bool true) ∧ Kp w w'' := fun w' k => (law_alive w').mono fun e w'' h => ⟨h.1, Kp.trans k h.2⟩
  by_cases hl : (40 : Int) < (a.length : Int)
  · simp (disch := omega) only [r_ln, r_pick, r_pickT, r_pickF, r_condT, r_condF, r_gdTT, r_gdFF, r_gdTF, r_gdFT, r_gqTT, r_gqFF, r_gqTF, r_gqFT, r_not, r_lss, r_leq, r_gtr, r_geq, r_eql, r_neq, r_add, r_sub, r_min2, r_max2, r_min3, r_max3, r_fa, r_iaS, r_iaA, r_ex2a, r_ex2b, r_ex3a, r_ex3b, r_ex3c, r_nc, r_keepE, Nat.zero_add, Nat.add_zero, Nat.mul_one, Int.toNat_natCast, toNat_sub1, toNat_add1, decide_true, decide_false, Bool.not_true, Bool.not_false, if_true, if_false, Bool.false_eq_true, reduceCtorEq, decide_eq_true hl]
    refine r_use fok18 (fin w (Kp.refl _)) rfl ?_
    rintro _ w1 ⟨rfl, k1⟩
    exact ⟨_, rfl, by first | rfl | trivial, k1⟩
  by_cases hl2 : (40 : Int) < (b.length : Int)
  · simp (disch := omega) only [r_ln, r_pick, r_pickT, r_pickF, r_condT, r_condF, r_gdTT, r_gdFF, r_gdTF, r_gdFT, r_gqTT, r_gqFF, r_gqTF, r_gqFT, r_not, r_lss, r_leq, r_gtr, r_geq, r_eql, r_neq, r_add, r_sub, r_min2, r_max2, r_min3, r_max3, r_fa, r_iaS, r_iaA, r_ex2a, r_ex2b, r_ex3a, r_ex3b, r_ex3c, r_nc, r_keepE, Nat.zero_add, Nat.add_zero, Nat.mul_one, Int.toNat_natCast, toNat_sub1, toNat_add1, decide_true, decide_false, Bool.not_true, Bool.not_false, if_true, if_false, Bool.false_eq_true, reduceCtorEq, hl, decide_eq_true hl2]
    refine r_use fok18 (fin w (Kp.refl _)) rfl ?_
    rintro _ w1 ⟨rfl, k1⟩
    exact ⟨_, rfl, by first | rfl | trivial, k1⟩
  simp (disch := omega) only [r_ln, r_pick, r_pickT, r_pickF, r_condT, r_condF, r_gdTT, r_gdFF, r_gdTF, r_gdFT, r_gqTT, r_gqFF, r_gqTF, r_gqFT, r_not, r_lss, r_leq, r_gtr, r_geq, r_eql, r_neq, r_add, r_sub, r_min2, r_max2, r_min3, r_max3, r_fa, r_iaS, r_iaA, r_ex2a, r_ex2b, r_ex3a, r_ex3b, r_ex3c, r_nc, r_keepE, Nat.zero_add, Nat.add_zero, Nat.mul_one, Int.toNat_natCast, toNat_sub1, toNat_add1, decide_true, decide_false, Bool.not_true, Bool.not_false, if_true, if_false, Bool.false_eq_true, reduceCtorEq, hl, hl2]
  refine r_use fok50 (prod50_calls w ha' hb') rfl ?_
  rintro _ w1 ⟨k1, p1⟩
  obtain ⟨v1, rfl, r1⟩ := p1.form
  refine ⟨_, rfl, ?_⟩
  simp (disch := omega) only [r_ln, r_pick, r_pickT, r_pickF, r_condT, r_condF, r_gdTT, r_gdFF, r_gdTF, r_gdFT, r_gqTT, r_gqFF, r_gqTF, r_gqFT, r_not, r_lss, r_leq, r_gtr, r_geq, r_eql, r_neq, r_add, r_sub, r_min2, r_max2, r_min3, r_max3, r_fa, r_iaS, r_iaA, r_ex2a, r_ex2b, r_ex3a, r_ex3b, r_ex3c, r_nc, r_keepE, Nat.zero_add, Nat.add_zero, Nat.mul_one, Int.toNat_natCast, toNat_sub1, toNat_add1, decide_true, decide_false, Bool.not_true, Bool.not_false, if_true, if_false, Bool.false_eq_true, reduceCtorEq]
  refine r_use fok51 (refprod_calls w1 (ha'.kp k1) (hb'.kp k1)) rfl ?_
  rintro _ w2 ⟨k2, p2⟩
  obtain ⟨v2, rfl, r2⟩ := p2.form
  refine ⟨_, rfl, ?_⟩
  have hself : ∀ x : Int, decide (x = x) = true := fun x => decide_eq_true rfl
  have hselfT : ∀ x : List Tile, decide (x = x) = true := fun x => decide_eq_true rfl
  simp (disch := omega) only [r_ln, r_pick, r_pickT, r_pickF, r_condT, r_condF, r_gdTT, r_gdFF, r_gdTF, r_gdFT, r_gqTT, r_gqFF, r_gqTF, r_gqFT, r_not, r_lss, r_leq, r_gtr, r_geq, r_eql, r_neq, r_add, r_sub, r_min2, r_max2, r_min3, r_max3, r_fa, r_iaS, r_iaA, r_ex2a, r_ex2b, r_ex3a, r_ex3b, r_ex3c, r_nc, r_keepE, Nat.zero_add, Nat.add_zero, Nat.mul_one, Int.toNat_natCast, toNat_sub1, toNat_add1, decide_true, decide_false, Bool.not_true, Bool.not_false, if_true, if_false, Bool.false_eq_true, reduceCtorEq, hself]
  refine r_use fok30 (sets_calls w2 (r1.kp k2) r2 (prodL_len a b)) rfl ?_
  rintro _ w3 ⟨rfl, k3⟩
  refine ⟨_, rfl, ?_⟩
  simp (disch := omega) only [r_ln, r_pick, r_pickT, r_pickF, r_condT, r_condF, r_gdTT, r_gdFF, r_gdTF, r_gdFT, r_gqTT, r_gqFF, r_gqTF, r_gqFT, r_not, r_lss, r_leq, r_gtr, r_geq, r_eql, r_neq, r_add, r_sub, r_min2, r_max2, r_min3, r_max3, r_fa, r_iaS, r_iaA, r_ex2a, r_ex2b, r_ex3a, r_ex3b, r_ex3c, r_nc, r_keepE, Nat.zero_add, Nat.add_zero, Nat.mul_one, Int.toNat_natCast, toNat_sub1, toNat_add1, decide_true, decide_false, Bool.not_true, Bool.not_false, if_true, if_false, Bool.false_eq_true, reduceCtorEq, hselfT]
  refine r_use fok18 (fin w3 (Kp.trans k1 (Kp.trans k2 k3))) rfl ?_
  rintro _ w4 ⟨rfl, k4⟩
  refine ⟨_, rfl, ?_⟩
  simp (disch := omega) only [r_ln, r_pick, r_pickT, r_pickF, r_condT, r_condF, r_gdTT, r_gdFF, r_gdTF, r_gdFT, r_gqTT, r_gqFF, r_gqTF, r_gqFT, r_not, r_lss, r_leq, r_gtr, r_geq, r_eql, r_neq, r_add, r_sub, r_min2, r_max2, r_min3, r_max3, r_fa, r_iaS, r_iaA, r_ex2a, r_ex2b, r_ex3a, r_ex3b, r_ex3c, r_nc, r_keepE, Nat.zero_add, Nat.add_zero, Nat.mul_one, Int.toNat_natCast, toNat_sub1, toNat_add1, decide_true, decide_false, Bool.not_true, Bool.not_false, if_true, if_false, Bool.false_eq_true, reduceCtorEq]
  exact ⟨by first | rfl | trivial, k4⟩

end Go.Proofs.Ytgalbokmgffhkaa

/- Contract: Refutes of the specification. -/
namespace Go.Proofs.Ytgalbokmgffhkaa
open Go.Lf Go.RowKit Go.Wg

/-- Do the lists behind entry i stand? -/
def under (l : List Tile) (W : Nat) (proof : List (List Int)) (p : List Int) : Prop := ∀ s ∈ rfrom l (some (p.drop 1)) W [] 255, standsB proof s (p.getD 0 0) = true

theorem rfrom_small {l : List Tile} {nn : Option (List Int)} {W : Nat} (hW : W ≤ 4) : (rfrom l nn W [] 255).length ≤ 4096 :=
  Nat.le_trans (rfrom_len W [] 255) (Nat.le_trans (Nat.pow_le_pow_right (by omega) hW) (by decide))
theorem rfrom_rowlen {l : List Tile} {nn : Option (List Int)} {W : Nat} : ∀ r ∈ rfrom l nn W [] 255, r.length = W := fun r h => by
  have := rfrom_row W [] 255 r h
  simpa using this

set_option maxRecDepth 100000 in
/-- The loop over the lists of Souths of all rows. -/
theorem r20_4 {w0 w : World} {pv rv : Value} {proof R : List (List Int)} {W H : Nat} {K : Ending → World → Prop} (hp : RdRows w pv proof) (hR : RdRows w rv R) (hrl : ∀ r ∈ R, r.length = W) (hrow : ∀ p ∈ proof, p.length = W + 1) (hk : Kp w0 w)
    (hK : ∀ w' b, Kp w0 w' → (b = true ↔ ∀ s ∈ R, standsB proof s H = true) → K (.returned (.tuple #[.bool b, .int .i64 0])) w') : S20L4 (.int .i64 H) pv rv K w := by
  obtain ⟨ra, rc, rfl, _⟩ := hR.len
  unfold S20L4
  refine ⟨fun t wr => ∃ i : Nat, i ≤ R.length ∧ t = .int .i64 i ∧ (∀ s ∈ R.take i, standsB proof s H = true) ∧ Kp w wr, fun t _ => R.length - (intOf t).toNat, ⟨0, by omega, rfl, by simp, Kp.refl _⟩, ?_⟩
  rintro _ _ wr ⟨i, hi, rfl, hall, kr⟩
  by_cases hlt : i < R.length
  case neg =>
    have hlt' : ¬ (i : Int) < (R.length : Int) := by omega
    rw [List.take_of_length_le (by omega)] at hall
    simp (disch := omega) only [r_ln, r_pick, r_pickT, r_pickF, r_condT, r_condF, r_gdTT, r_gdFF, r_gdTF, r_gdFT, r_gqTT, r_gqFF, r_gqTF, r_gqFT, r_not, r_lss, r_leq, r_gtr, r_geq, r_eql, r_neq, r_add, r_sub, r_min2, r_max2, r_min3, r_max3, r_fa, r_iaS, r_iaA, r_ex2a, r_ex2b, r_ex3a, r_ex3b, r_ex3c, r_nc, r_keepE, Nat.zero_add, Nat.add_zero, Nat.mul_one, Int.toNat_natCast, toNat_sub1, toNat_add1, decide_true, decide_false, Bool.not_true, Bool.not_false, if_true, if_false, Bool.false_eq_true, reduceCtorEq, hlt']
    exact hK _ true (Kp.trans hk kr) ⟨fun _ => hall, fun _ => rfl⟩
  have hlt' : (i : Int) < (R.length : Int) := by omega
  obtain ⟨rb, ro, _, sv, er, hcell, hs⟩ := (hR.below kr).row hlt
  cases er
  have hii : (i : Int).toNat = i := by omega
  have hsl : (R.getD i []).length = W := hrl _ (getD_mem hlt)
  simp (disch := omega) only [r_ln, r_pick, r_pickT, r_pickF, r_condT, r_condF, r_gdTT, r_gdFF, r_gdTF, r_gdFT, r_gqTT, r_gqFF, r_gqTF, r_gqFT, r_not, r_lss, r_leq, r_gtr, r_geq, r_eql, r_neq, r_add, r_sub, r_min2, r_max2, r_min3, r_max3, r_fa, r_iaS, r_iaA, r_ex2a, r_ex2b, r_ex3a, r_ex3b, r_ex3c, r_nc, r_keepE, Nat.zero_add, Nat.add_zero, Nat.mul_one, Int.toNat_natCast, toNat_sub1, toNat_add1, decide_true, decide_false, Bool.not_true, Bool.not_false, if_true, if_false, Bool.false_eq_true, reduceCtorEq, decide_eq_true hlt', hii, r_ld hcell]
  refine r_use fok63 (stands_calls (k := H) wr (hp.below kr) hs (fun j hj => by rw [hsl]; exact hrow _ (getD_mem hj))) rfl ?_
  rintro _ w2 ⟨rfl, k2⟩
  refine ⟨_, rfl, ?_⟩
  have k02 := Kp.trans kr k2
  have hm : R.getD i [] ∈ R := getD_mem hlt
  cases hst : standsB proof (R.getD i []) H with
  | false =>
    simp (disch := omega) only [r_ln, r_pick, r_pickT, r_pickF, r_condT, r_condF, r_gdTT, r_gdFF, r_gdTF, r_gdFT, r_gqTT, r_gqFF, r_gqTF, r_gqFT, r_not, r_lss, r_leq, r_gtr, r_geq, r_eql, r_neq, r_add, r_sub, r_min2, r_max2, r_min3, r_max3, r_fa, r_iaS, r_iaA, r_ex2a, r_ex2b, r_ex3a, r_ex3b, r_ex3c, r_nc, r_keepE, Nat.zero_add, Nat.add_zero, Nat.mul_one, Int.toNat_natCast, toNat_sub1, toNat_add1, decide_true, decide_false, Bool.not_true, Bool.not_false, if_true, if_false, Bool.false_eq_true, reduceCtorEq]
    refine hK _ false (Kp.trans hk k02) ⟨fun h => absurd h Bool.false_ne_true, fun h => ?_⟩
    rw [h _ hm] at hst
    cases hst
  | true =>
    simp (disch := omega) only [r_ln, r_pick, r_pickT, r_pickF, r_condT, r_condF, r_gdTT, r_gdFF, r_gdTF, r_gdFT, r_gqTT, r_gqFF, r_gqTF, r_gqFT, r_not, r_lss, r_leq, r_gtr, r_geq, r_eql, r_neq, r_add, r_sub, r_min2, r_max2, r_min3, r_max3, r_fa, r_iaS, r_iaA, r_ex2a, r_ex2b, r_ex3a, r_ex3b, r_ex3c, r_nc, r_keepE, Nat.zero_add, Nat.add_zero, Nat.mul_one, Int.toNat_natCast, toNat_sub1, toNat_add1, decide_true, decide_false, Bool.not_true, Bool.not_false, if_true, if_false, Bool.false_eq_true, reduceCtorEq]
    refine ⟨⟨i + 1, by omega, by go_num, fun s hs' => ?_, k02⟩, by simp only [intOf]; omega⟩
    rw [take_succ' _ _ hlt, List.mem_append, ← getD_lt R i [] hlt] at hs'
    rcases hs' with h | h
    · exact hall s h
    · simp only [List.mem_singleton] at h
      rw [h]; exact hst

set_option maxRecDepth 100000 in
/-- The loop over the lists of Souths under an entry's colours. -/
theorem r20_3 {w0 w : World} {pv rv : Value} {proof R : List (List Int)} {W i : Nat} {next : Value → World → Prop} {K : Ending → World → Prop} (hp : RdRows w pv proof) (hi : i < proof.length) (hR : RdRows w rv R) (hrl : ∀ r ∈ R, r.length = W) (hrow : ∀ p ∈ proof, p.length = W + 1) (hk : Kp w0 w)
    (hno : ∀ w', Kp w0 w' → (∃ s ∈ R, standsB proof s ((proof.getD i []).getD 0 0) = false) → K (.returned (.tuple #[.bool false, .int .i64 0])) w')
    (hyes : ∀ w', Kp w0 w' → (∀ s ∈ R, standsB proof s ((proof.getD i []).getD 0 0) = true) → next (.int .i64 ((i : Int) + 1)) w') : S20L3 pv (.int .i64 i) rv next K w := by
  obtain ⟨ra, rc, rfl, _⟩ := hR.len
  obtain ⟨_, _, _, hpl⟩ := hp.len
  unfold S20L3
  refine ⟨fun t wr => ∃ j : Nat, j ≤ R.length ∧ t = .int .i64 j ∧ (∀ s ∈ R.take j, standsB proof s ((proof.getD i []).getD 0 0) = true) ∧ Kp w wr, fun t _ => R.length - (intOf t).toNat, ⟨0, by omega, rfl, by simp, Kp.refl _⟩, ?_⟩
  rintro _ _ wr ⟨j, hj, rfl, hall, kr⟩
  by_cases hlt : j < R.length
  case neg =>
    have hlt' : ¬ (j : Int) < (R.length : Int) := by omega
    rw [List.take_of_length_le (by omega)] at hall
    simp (disch := omega) only [r_ln, r_pick, r_pickT, r_pickF, r_condT, r_condF, r_gdTT, r_gdFF, r_gdTF, r_gdFT, r_gqTT, r_gqFF, r_gqTF, r_gqFT, r_not, r_lss, r_leq, r_gtr, r_geq, r_eql, r_neq, r_add, r_sub, r_min2, r_max2, r_min3, r_max3, r_fa, r_iaS, r_iaA, r_ex2a, r_ex2b, r_ex3a, r_ex3b, r_ex3c, r_nc, r_keepE, Nat.zero_add, Nat.add_zero, Nat.mul_one, Int.toNat_natCast, toNat_sub1, toNat_add1, decide_true, decide_false, Bool.not_true, Bool.not_false, if_true, if_false, Bool.false_eq_true, reduceCtorEq, hlt']
    exact hyes _ (Kp.trans hk kr) hall
  have hlt' : (j : Int) < (R.length : Int) := by omega
  simp (disch := omega) only [r_ln, r_pick, r_pickT, r_pickF, r_condT, r_condF, r_gdTT, r_gdFF, r_gdTF, r_gdFT, r_gqTT, r_gqFF, r_gqTF, r_gqFT, r_not, r_lss, r_leq, r_gtr, r_geq, r_eql, r_neq, r_add, r_sub, r_min2, r_max2, r_min3, r_max3, r_fa, r_iaS, r_iaA, r_ex2a, r_ex2b, r_ex3a, r_ex3b, r_ex3c, r_nc, r_keepE, Nat.zero_add, Nat.add_zero, Nat.mul_one, Int.toNat_natCast, toNat_sub1, toNat_add1, decide_true, decide_false, Bool.not_true, Bool.not_false, if_true, if_false, Bool.false_eq_true, reduceCtorEq, decide_eq_true hlt']
  refine r_drew fun wd kd _ => ?_
  have krd := Kp.trans kr kd
  obtain ⟨rb, ro, _, sv, er, hcell, hs⟩ := (hR.below krd).row hlt
  cases er
  obtain ⟨pb, po, _, qv, ep, pcell, hq⟩ := (hp.below krd).row hi
  subst ep
  have hpl3 : (proof.getD i []).length = W + 1 := hrow _ (getD_mem hi)
  obtain ⟨qb, qo, _, eq, qcell⟩ := hq.at (j := 0) (by omega)
  subst eq
  have hii : (i : Int).toNat = i := by omega
  have hjj : (j : Int).toNat = j := by omega
  have i0 : (0 : Int).toNat = 0 := rfl
  rw [Nat.add_zero] at qcell
  have hsl : (R.getD j []).length = W := hrl _ (getD_mem hlt)
  simp (disch := omega) only [r_ln, r_pick, r_pickT, r_pickF, r_condT, r_condF, r_gdTT, r_gdFF, r_gdTF, r_gdFT, r_gqTT, r_gqFF, r_gqTF, r_gqFT, r_not, r_lss, r_leq, r_gtr, r_geq, r_eql, r_neq, r_add, r_sub, r_min2, r_max2, r_min3, r_max3, r_fa, r_iaS, r_iaA, r_ex2a, r_ex2b, r_ex3a, r_ex3b, r_ex3c, r_nc, r_keepE, Nat.zero_add, Nat.add_zero, Nat.mul_one, Int.toNat_natCast, toNat_sub1, toNat_add1, decide_true, decide_false, Bool.not_true, Bool.not_false, if_true, if_false, Bool.false_eq_true, reduceCtorEq, hjj, r_ld hcell, hii, r_ld pcell, i0, Nat.zero_mul, r_ld qcell]
  refine r_use fok63 (stands_calls (k := (proof.getD i []).getD 0 0) wd (hp.below krd) hs (fun j hj => by rw [hsl]; exact hrow _ (getD_mem hj))) rfl ?_
  rintro _ w2 ⟨rfl, k2⟩
  refine ⟨_, rfl, ?_⟩
  have k02 := Kp.trans krd k2
  have hm : R.getD j [] ∈ R := getD_mem hlt
  cases hst : standsB proof (R.getD j []) ((proof.getD i []).getD 0 0) with
  | false =>
    simp (disch := omega) only [r_ln, r_pick, r_pickT, r_pickF, r_condT, r_condF, r_gdTT, r_gdFF, r_gdTF, r_gdFT, r_gqTT, r_gqFF, r_gqTF, r_gqFT, r_not, r_lss, r_leq, r_gtr, r_geq, r_eql, r_neq, r_add, r_sub, r_min2, r_max2, r_min3, r_max3, r_fa, r_iaS, r_iaA, r_ex2a, r_ex2b, r_ex3a, r_ex3b, r_ex3c, r_nc, r_keepE, Nat.zero_add, Nat.add_zero, Nat.mul_one, Int.toNat_natCast, toNat_sub1, toNat_add1, decide_true, decide_false, Bool.not_true, Bool.not_false, if_true, if_false, Bool.false_eq_true, reduceCtorEq]
    exact hno _ (Kp.trans hk k02) ⟨_, hm, hst⟩
  | true =>
    simp (disch := omega) only [r_ln, r_pick, r_pickT, r_pickF, r_condT, r_condF, r_gdTT, r_gdFF, r_gdTF, r_gdFT, r_gqTT, r_gqFF, r_gqTF, r_gqFT, r_not, r_lss, r_leq, r_gtr, r_geq, r_eql, r_neq, r_add, r_sub, r_min2, r_max2, r_min3, r_max3, r_fa, r_iaS, r_iaA, r_ex2a, r_ex2b, r_ex3a, r_ex3b, r_ex3c, r_nc, r_keepE, Nat.zero_add, Nat.add_zero, Nat.mul_one, Int.toNat_natCast, toNat_sub1, toNat_add1, decide_true, decide_false, Bool.not_true, Bool.not_false, if_true, if_false, Bool.false_eq_true, reduceCtorEq]
    refine ⟨⟨j + 1, by omega, by go_num, fun s hs' => ?_, k02⟩, by simp only [intOf]; omega⟩
    rw [take_succ' _ _ hlt, List.mem_append, ← getD_lt R j [] hlt] at hs'
    rcases hs' with h | h
    · exact hall s h
    · simp only [List.mem_singleton] at h
      rw [h]; exact hst

set_option maxRecDepth 100000 in
theorem r20_2 {w0 w : World} {v pv : Value} {l : List Tile} {proof : List (List Int)} {W H : Nat} {K : Ending → World → Prop} (hr : RdT w v l) (hs : setB l = true) (hW : 1 ≤ W ∧ W ≤ 4) (hp : RdRows w pv proof) (hrow : ∀ p ∈ proof, p.length = W + 1 ∧ (p.drop 1).all colB = true) (hk : Kp w0 w)
    (hK : ∀ w' b, Kp w0 w' → (b = true ↔ (∀ p ∈ proof, under l W proof p) ∧ ∀ s ∈ rfrom l none W [] 255, standsB proof s H = true) → K (.returned (.tuple #[.bool b, .int .i64 0])) w') : S20L2 v (.int .i64 W) (.int .i64 H) pv K w := by
  have hp' := hp
  obtain ⟨pa, pc, rfl, _⟩ := hp.len
  have hlen : ∀ p ∈ proof, p.length = W + 1 := fun p h => (hrow p h).1
  unfold S20L2
  refine ⟨fun t wr => ∃ i : Nat, i ≤ proof.length ∧ t = .int .i64 i ∧ (∀ p ∈ proof.take i, under l W proof p) ∧ Kp w wr, fun t _ => proof.length - (intOf t).toNat, ⟨0, by omega, rfl, by simp, Kp.refl _⟩, ?_⟩
  rintro _ _ wr ⟨i, hi, rfl, hall, kr⟩
  by_cases hlt : i < proof.length
  case neg =>
    have hlt' : ¬ (i : Int) < (proof.length : Int) := by omega
    rw [List.take_of_length_le (by omega)] at hall
    simp (disch := omega) only [r_ln, r_pick, r_pickT, r_pickF, r_condT, r_condF, r_gdTT, r_gdFF, r_gdTF, r_gdFT, r_gqTT, r_gqFF, r_gqTF, r_gqFT, r_not, r_lss, r_leq, r_gtr, r_geq, r_eql, r_neq, r_add, r_sub, r_min2, r_max2, r_min3, r_max3, r_fa, r_iaS, r_iaA, r_ex2a, r_ex2b, r_ex3a, r_ex3b, r_ex3c, r_nc, r_keepE, Nat.zero_add, Nat.add_zero, Nat.mul_one, Int.toNat_natCast, toNat_sub1, toNat_add1, decide_true, decide_false, Bool.not_true, Bool.not_false, if_true, if_false, Bool.false_eq_true, reduceCtorEq, hlt']
    refine r_use fok64 (firsts_calls (W := W) wr (hr.kp kr) (isSet_of hs) hW) rfl ?_
    rintro _ w2 ⟨v2, rfl, k2, o2⟩
    refine ⟨_, rfl, ?_⟩
    have hRl := rfrom_rowlen (l := l) (nn := none) (W := W)
    have hR : RdRows w2 v2 (rfrom l none W [] 255) := o2.rd (by have := rfrom_small (l := l) (nn := none) hW.2; omega) (fun r h => by rw [hRl r h]; omega)
    refine r20_4 (hp'.below (Kp.trans kr k2)) hR hRl hlen (Kp.trans hk (Kp.trans kr k2)) fun w' b kk hb => hK w' b kk ?_
    rw [hb]
    exact ⟨fun h => ⟨hall, h⟩, fun h => h.2⟩
  have hlt' : (i : Int) < (proof.length : Int) := by omega
  obtain ⟨pb, po, _, qv, ep, pcell, hq⟩ := (hp'.below kr).row hlt
  cases ep
  have hm : proof.getD i [] ∈ proof := getD_mem hlt
  have hpl := (hrow _ hm).1
  obtain ⟨qa, qc, rfl, _, _⟩ := hq.len
  have htail := rd_from (j := 1) hq (by omega)
  have hii : (i : Int).toNat = i := by omega
  have i1 : (1 : Int).toNat = 1 := rfl
  have hdl : ((proof.getD i []).drop 1).length = W := by rw [List.length_drop]; omega
  rw [Nat.mul_one] at htail
  simp (disch := omega) only [r_ln, r_pick, r_pickT, r_pickF, r_condT, r_condF, r_gdTT, r_gdFF, r_gdTF, r_gdFT, r_gqTT, r_gqFF, r_gqTF, r_gqFT, r_not, r_lss, r_leq, r_gtr, r_geq, r_eql, r_neq, r_add, r_sub, r_min2, r_max2, r_min3, r_max3, r_fa, r_iaS, r_iaA, r_ex2a, r_ex2b, r_ex3a, r_ex3b, r_ex3c, r_nc, r_keepE, Nat.zero_add, Nat.add_zero, Nat.mul_one, Int.toNat_natCast, toNat_sub1, toNat_add1, decide_true, decide_false, Bool.not_true, Bool.not_false, if_true, if_false, Bool.false_eq_true, reduceCtorEq, decide_eq_true hlt', hii, r_ld pcell, r_slFrom, i1]
  refine r_use fok48 (refrows_calls wr (hr.kp kr) htail) rfl ?_
  rintro _ w2 ⟨k2, hpost⟩
  have hok : rowsOk l ((proof.getD i []).drop 1) = true := by
    simp only [rowsOk, Bool.and_eq_true, hs, (hrow _ hm).2, sideB, decide_eq_true_eq]
    refine ⟨⟨trivial, by omega⟩, trivial⟩
  rcases hpost with ⟨h, _⟩ | ⟨_, v2, rfl, o2⟩
  · rw [hok] at h; cases h
  rw [hdl] at o2
  refine ⟨_, rfl, ?_⟩
  simp (disch := omega) only [r_ln, r_pick, r_pickT, r_pickF, r_condT, r_condF, r_gdTT, r_gdFF, r_gdTF, r_gdFT, r_gqTT, r_gqFF, r_gqTF, r_gqFT, r_not, r_lss, r_leq, r_gtr, r_geq, r_eql, r_neq, r_add, r_sub, r_min2, r_max2, r_min3, r_max3, r_fa, r_iaS, r_iaA, r_ex2a, r_ex2b, r_ex3a, r_ex3b, r_ex3c, r_nc, r_keepE, Nat.zero_add, Nat.add_zero, Nat.mul_one, Int.toNat_natCast, toNat_sub1, toNat_add1, decide_true, decide_false, Bool.not_true, Bool.not_false, if_true, if_false, Bool.false_eq_true, reduceCtorEq]
  have k02 := Kp.trans kr k2
  have hRl := rfrom_rowlen (l := l) (nn := some ((proof.getD i []).drop 1)) (W := W)
  have hR : RdRows w2 v2 (rfrom l (some ((proof.getD i []).drop 1)) W [] 255) := o2.rd (by have := rfrom_small (l := l) (nn := some ((proof.getD i []).drop 1)) hW.2; omega) (fun r h => by rw [hRl r h]; omega)
  refine r20_3 (w0 := w) (hp'.below k02) hlt hR hRl hlen k02 (fun w' kk ⟨s, hsm, hsf⟩ => ?_) (fun w' kk hyes => ?_)
  · refine hK w' false (Kp.trans hk kk) ⟨fun h => absurd h Bool.false_ne_true, fun h => ?_⟩
    have := h.1 _ hm s hsm
    rw [hsf] at this
    cases this
  · refine ⟨⟨i + 1, by omega, by go_num, fun p hp2 => ?_, kk⟩, by simp only [intOf]; omega⟩
    rw [take_succ' _ _ hlt, List.mem_append, ← getD_lt proof i [] hlt] at hp2
    rcases hp2 with h | h
    · exact hall p h
    · simp only [List.mem_singleton] at h
      rw [h]; exact hyes

set_option maxRecDepth 100000 in
theorem r20_1 {w0 w : World} {pv : Value} {proof : List (List Int)} {W i : Nat} {next : Value → World → Prop} {K : Ending → World → Prop} (hp : RdRows w pv proof) (hi : i < proof.length) (hlen : (proof.getD i []).length = W + 1) (hW : W ≤ 4) (hk : Kp w0 w)
    (hno : ∀ w', Kp w0 w' → ((proof.getD i []).drop 1).all colB = false → K (.returned (.tuple #[.bool false, .int .i64 0])) w')
    (hyes : ∀ w', Kp w0 w' → ((proof.getD i []).drop 1).all colB = true → next (.int .i64 ((i : Int) + 1)) w') : S20L1 (.int .i64 W) pv (.int .i64 i) next K w := by
  unfold S20L1
  obtain ⟨_, _, _, hpl⟩ := hp.len
  refine ⟨fun t wr => ∃ x : Nat, x ≤ W ∧ t = .int .i64 ((x : Int) + 1) ∧ (((proof.getD i []).drop 1).take x).all colB = true ∧ Kp w wr, fun t _ => W + 1 - (intOf t).toNat, ⟨0, by omega, rfl, rfl, Kp.refl _⟩, ?_⟩
  rintro _ _ wr ⟨x, hx, rfl, hall, kr⟩
  have hdl : ((proof.getD i []).drop 1).length = W := by rw [List.length_drop]; omega
  by_cases hlt : x < W
  case neg =>
    have hlt' : ¬ (x : Int) + 1 ≤ (W : Int) := by omega
    rw [List.take_of_length_le (by omega)] at hall
    simp (disch := omega) only [r_ln, r_pick, r_pickT, r_pickF, r_condT, r_condF, r_gdTT, r_gdFF, r_gdTF, r_gdFT, r_gqTT, r_gqFF, r_gqTF, r_gqFT, r_not, r_lss, r_leq, r_gtr, r_geq, r_eql, r_neq, r_add, r_sub, r_min2, r_max2, r_min3, r_max3, r_fa, r_iaS, r_iaA, r_ex2a, r_ex2b, r_ex3a, r_ex3b, r_ex3c, r_nc, r_keepE, Nat.zero_add, Nat.add_zero, Nat.mul_one, Int.toNat_natCast, toNat_sub1, toNat_add1, decide_true, decide_false, Bool.not_true, Bool.not_false, if_true, if_false, Bool.false_eq_true, reduceCtorEq, hlt']
    exact hyes _ (Kp.trans hk kr) hall
  have hlt' : (x : Int) + 1 ≤ (W : Int) := by omega
  obtain ⟨pb, po, _, qv, ep, pcell, hq⟩ := (hp.below kr).row hi
  subst ep
  obtain ⟨qb, qo, _, eq, qcell⟩ := hq.at (j := x + 1) (by omega)
  subst eq
  have hii : (i : Int).toNat = i := by omega
  have hxx : ((x : Int) + 1).toNat = x + 1 := by omega
  simp (disch := omega) only [r_ln, r_pick, r_pickT, r_pickF, r_condT, r_condF, r_gdTT, r_gdFF, r_gdTF, r_gdFT, r_gqTT, r_gqFF, r_gqTF, r_gqFT, r_not, r_lss, r_leq, r_gtr, r_geq, r_eql, r_neq, r_add, r_sub, r_min2, r_max2, r_min3, r_max3, r_fa, r_iaS, r_iaA, r_ex2a, r_ex2b, r_ex3a, r_ex3b, r_ex3c, r_nc, r_keepE, Nat.zero_add, Nat.add_zero, Nat.mul_one, Int.toNat_natCast, toNat_sub1, toNat_add1, decide_true, decide_false, Bool.not_true, Bool.not_false, if_true, if_false, Bool.false_eq_true, reduceCtorEq, decide_eq_true hlt', hii, r_ld pcell, hxx, r_ld qcell]
  refine r_use fok62 (refcolour_calls _ wr) rfl ?_
  rintro _ _ ⟨rfl, rfl⟩
  refine ⟨_, rfl, ?_⟩
  have hxd : x < ((proof.getD i []).drop 1).length := by omega
  have e1 : ((proof.getD i []).drop 1)[x] = (proof.getD i []).getD (x + 1) 0 := by
    rw [List.getElem_drop, getD_lt (proof.getD i []) (x + 1) 0 (by omega)]
    congr 1
    omega
  cases hcol : colB ((proof.getD i []).getD (x + 1) 0) with
  | false =>
    simp (disch := omega) only [r_ln, r_pick, r_pickT, r_pickF, r_condT, r_condF, r_gdTT, r_gdFF, r_gdTF, r_gdFT, r_gqTT, r_gqFF, r_gqTF, r_gqFT, r_not, r_lss, r_leq, r_gtr, r_geq, r_eql, r_neq, r_add, r_sub, r_min2, r_max2, r_min3, r_max3, r_fa, r_iaS, r_iaA, r_ex2a, r_ex2b, r_ex3a, r_ex3b, r_ex3c, r_nc, r_keepE, Nat.zero_add, Nat.add_zero, Nat.mul_one, Int.toNat_natCast, toNat_sub1, toNat_add1, decide_true, decide_false, Bool.not_true, Bool.not_false, if_true, if_false, Bool.false_eq_true, reduceCtorEq]
    refine hno _ (Kp.trans hk kr) ?_
    cases hh : ((proof.getD i []).drop 1).all colB with
    | false => rfl
    | true =>
      have := List.all_eq_true.1 hh _ (List.getElem_mem hxd)
      rw [e1, hcol] at this
      cases this
  | true =>
    simp (disch := omega) only [r_ln, r_pick, r_pickT, r_pickF, r_condT, r_condF, r_gdTT, r_gdFF, r_gdTF, r_gdFT, r_gqTT, r_gqFF, r_gqTF, r_gqFT, r_not, r_lss, r_leq, r_gtr, r_geq, r_eql, r_neq, r_add, r_sub, r_min2, r_max2, r_min3, r_max3, r_fa, r_iaS, r_iaA, r_ex2a, r_ex2b, r_ex3a, r_ex3b, r_ex3c, r_nc, r_keepE, Nat.zero_add, Nat.add_zero, Nat.mul_one, Int.toNat_natCast, toNat_sub1, toNat_add1, decide_true, decide_false, Bool.not_true, Bool.not_false, if_true, if_false, Bool.false_eq_true, reduceCtorEq]
    refine ⟨⟨x + 1, by omega, by go_num, ?_, kr⟩, by simp only [intOf]; omega⟩
    rw [take_succ' _ _ hxd, List.all_append, hall, e1, List.all_cons, List.all_nil, hcol]
    rfl

end Go.Proofs.Ytgalbokmgffhkaa

/- Contracts: has, WangTransducers. -/
namespace Go.Proofs.Ytgalbokmgffhkaa
open Go.Lf Go.RowKit Go.Wg

set_option maxRecDepth 100000 in
theorem has_calls {lv xv : Value} {R : List (List Int)} {x : List Int} (w : World) (hl : RdRows w lv R) (hx : RdInts w xv x) : Calls Try.prog 52 #[lv, xv] w fun e w' => e = .returned (.bool (decide (x ∈ R))) ∧ Kp w w' := by
  obtain ⟨la, lc, elv, hll⟩ := hl.len
  have lnl : ∀ K : Value → Prop, ln1 lv K = K (.int .i64 R.length) := fun K => by rw [elv]; rfl
  refine lift52 ?_
  unfold S52 S52L0
  refine ⟨fun t5 wr => ∃ i : Nat, i ≤ R.length ∧ t5 = .int .i64 i ∧ x ∉ R.take i ∧ Kp w wr, fun t5 _ => R.length - (intOf t5).toNat, ⟨0, by omega, rfl, by simp, Kp.refl _⟩, ?_⟩
  rintro _ _ wr ⟨i, hi, rfl, hn, kr⟩
  rw [lnl]
  by_cases hlt : i < R.length
  case neg =>
    have hlt' : ¬ (i : Int) < (R.length : Int) := by omega
    rw [List.take_of_length_le (by omega)] at hn
    simp only [r_lss, hlt', decide_false, r_condF]
    exact ⟨by rw [decide_eq_false hn], kr⟩
  have hlt' : (i : Int) < (R.length : Int) := by omega
  have hii : (i : Int).toNat = i := by omega
  obtain ⟨b, off, cap, rv, ev, hc, hr⟩ := (hl.below kr).row hlt
  simp only [r_lss, decide_eq_true hlt', r_condT]
  rw [ev, r_iaS _ _ _ _ _ _ _ (by omega) (by omega), hii, Nat.mul_one, r_ld hc]
  refine r_use fok43 (numbers_calls wr hr (hx.below kr)) rfl ?_
  rintro _ w2 ⟨rfl, k2⟩
  refine ⟨_, rfl, ?_⟩
  have k02 := Kp.trans kr k2
  by_cases he : R.getD i [] = x
  · simp only [decide_eq_true he, r_condT]
    exact ⟨by rw [decide_eq_true (show x ∈ R by rw [← he]; exact getD_mem hlt)], k02⟩
  · simp only [he, decide_false, r_condF]
    rw [r_add _ _ (by omega) (by omega)]
    refine ⟨⟨i + 1, by omega, by go_num, ?_, k02⟩, by simp only [intOf]; omega⟩
    intro hm
    rw [take_succ' _ _ hlt] at hm
    rcases List.mem_append.1 hm with h | h
    · exact hn h
    · rw [getD_lt _ _ _ hlt] at he
      exact he (by simp at h; exact h.symm)

theorem under_small {l : List Tile} {n : List Int} (hn : n.length ≤ 4) : (underL l n).length ≤ 4096 := rfrom_small hn

/-- Rows of the second set, of a list that the first one gives. -/
theorem rows_b {bv mv : Value} {b : List Tile} {n m : List Int} (hb : setB b = true) (hm : m.length = n.length ∧ ∀ x ∈ m, colB x = true) (hn : 1 ≤ n.length ∧ n.length ≤ 4) (w : World) (hr : RdT w bv b) (hmv : RdInts w mv m) :
    Calls Try.prog 49 #[bv, mv] w fun e w' => Kp w w' ∧ ∃ v, e = .returned (.tuple #[v, .int .i64 0]) ∧ RdRows w' v (underL b m) := by
  refine (rows49_calls w hr hmv).mono fun e w' ⟨k, h⟩ => ⟨k, ?_⟩
  obtain ⟨v, rfl, ho⟩ := h.form
  have hok : rowsOk b m = true := by
    unfold rowsOk
    rw [hb, hm.1, List.all_eq_true.2 hm.2]
    have : sideB (n.length : Int) = true := by unfold sideB; exact decide_eq_true (by omega)
    rw [this]; rfl
  rw [if_pos hok] at ho
  rw [if_pos hok]
  have hs := isSet_of hb
  refine ⟨v, rfl, ho.rd (by have := under_small (l := b) (n := m) (by omega); unfold underL at this; omega) fun r hr => ?_⟩
  have := (under_cols hs.cols (show r ∈ underL b m from hr)).1
  omega

set_option maxRecDepth 100000 in
set_option maxHeartbeats 1000000 in
theorem r16_3 {lv nv : Value} {L N : List (List Int)} {k : Nat} {w0 w : World} {next : Value → World → Prop} {R : Ending → World → Prop} (hL : RdRows w0 lv L) (hN : RdRows w0 nv N) (hin : ∀ x ∈ N, x ∈ L) (hk4 : k ≤ 100) (hk : Kp w0 w)
    (hnext : ∀ w', Kp w0 w' → next (.int .i64 ((k : Int) + 1)) w') : S16L3 (.int .i64 k) lv nv next R w := by
  obtain ⟨na, nc, env, hnl⟩ := hN.len
  have lnn : ∀ K : Value → Prop, ln1 nv K = K (.int .i64 N.length) := fun K => by rw [env]; rfl
  unfold S16L3
  refine ⟨fun t20 wr => ∃ i : Nat, i ≤ N.length ∧ t20 = .int .i64 i ∧ Kp w0 wr, fun t20 _ => N.length - (intOf t20).toNat, ⟨0, by omega, rfl, hk⟩, ?_⟩
  rintro _ _ wr ⟨i, hi, rfl, kr⟩
  rw [lnn]
  have fin : (binQ Try.prog wr .add 3 true (.int .i64 k) (.int .i64 1) fun t127 => next t127 wr) := by
    rw [r_add _ _ (by omega) (by omega)]
    exact hnext wr kr
  by_cases hlt : i < N.length
  case neg =>
    have hlt' : ¬ (i : Int) < (N.length : Int) := by omega
    simp only [r_lss, hlt', decide_false, r_gdFT, r_gdU, r_pickF, r_condF]
    exact fin
  have hlt' : (i : Int) < (N.length : Int) := by omega
  by_cases h40 : (i : Int) < 40
  case neg =>
    simp only [r_lss, decide_eq_true hlt', h40, decide_false, r_gdTT, r_pickT, r_condF]
    exact fin
  have hii : (i : Int).toNat = i := by omega
  obtain ⟨b, off, cap, rv, ev, hc, hr⟩ := (hN.below kr).row hlt
  simp only [r_lss, decide_eq_true hlt', decide_eq_true h40, r_gdTT, r_pickT, r_condT]
  rw [ev, r_iaS _ _ _ _ _ _ _ (by omega) (by omega), hii, Nat.mul_one, r_ld hc]
  refine r_use fok52 (has_calls wr (hL.below kr) hr) rfl ?_
  rintro _ w2 ⟨rfl, k2⟩
  refine ⟨_, rfl, ?_⟩
  rw [decide_eq_true (hin _ (getD_mem hlt))]
  simp only [r_not, Bool.not_true, r_condF]
  rw [r_add _ _ (by omega) (by omega)]
  exact ⟨⟨i + 1, by omega, by go_num, Kp.trans kr k2⟩, by simp only [intOf]; omega⟩

set_option maxRecDepth 100000 in
set_option maxHeartbeats 1000000 in
theorem r16_2 {bv lv mv : Value} {b : List Tile} {n : List Int} {L M : List (List Int)} {w0 w : World} {R : Ending → World → Prop} (hb : setB b = true) (hbv : RdT w0 bv b) (hn : 1 ≤ n.length ∧ n.length ≤ 4) (hL : RdRows w0 lv L) (hM : RdRows w0 mv M)
    (hMc : ∀ m ∈ M, m.length = n.length ∧ ∀ x ∈ m, colB x = true) (hin : ∀ m ∈ M, ∀ s ∈ underL b m, s ∈ L) (hk : Kp w0 w)
    (hR : ∀ w', Kp w0 w' → callW Try.prog (.func (.func 18) #[] #[]) [] w' fun t156 w => R (.returned t156) w) : S16L2 bv lv mv R w := by
  obtain ⟨ma, mc, emv, hml⟩ := hM.len
  have lnm : ∀ K : Value → Prop, ln1 mv K = K (.int .i64 M.length) := fun K => by rw [emv]; rfl
  unfold S16L2
  refine ⟨fun t17 wr => ∃ i : Nat, i ≤ M.length ∧ i ≤ 40 ∧ t17 = .int .i64 i ∧ Kp w0 wr, fun t17 _ => M.length - (intOf t17).toNat, ⟨0, by omega, by omega, rfl, hk⟩, ?_⟩
  rintro _ _ wr ⟨i, hi, hi4, rfl, kr⟩
  rw [lnm]
  by_cases hlt : i < M.length
  case neg =>
    have hlt' : ¬ (i : Int) < (M.length : Int) := by omega
    simp only [r_lss, hlt', decide_false, r_gdFT, r_gdU, r_pickF, r_condF]
    exact hR wr kr
  have hlt' : (i : Int) < (M.length : Int) := by omega
  by_cases h40 : (i : Int) < 40
  case neg =>
    simp only [r_lss, decide_eq_true hlt', h40, decide_false, r_gdTT, r_pickT, r_condF]
    exact hR wr kr
  have hii : (i : Int).toNat = i := by omega
  obtain ⟨bb, off, cap, rv, ev, hc, hr⟩ := (hM.below kr).row hlt
  have hmem : M.getD i [] ∈ M := getD_mem hlt
  simp only [r_lss, decide_eq_true hlt', decide_eq_true h40, r_gdTT, r_pickT, r_condT]
  rw [ev, r_iaS _ _ _ _ _ _ _ (by omega) (by omega), hii, Nat.mul_one, r_ld hc]
  refine r_use fok49 (rows_b hb (hMc _ hmem) hn wr (hbv.kp kr) hr) rfl ?_
  rintro _ w2 ⟨k2, v2, rfl, h2⟩
  refine ⟨_, rfl, ?_⟩
  have k02 := Kp.trans kr k2
  simp (disch := omega) only [r_ln, r_pick, r_pickT, r_pickF, r_condT, r_condF, r_gdTT, r_gdFF, r_gdTF, r_gdFT, r_gqTT, r_gqFF, r_gqTF, r_gqFT, r_not, r_lss, r_leq, r_gtr, r_geq, r_eql, r_neq, r_add, r_sub, r_min2, r_max2, r_min3, r_max3, r_fa, r_iaS, r_iaA, r_ex2a, r_ex2b, r_ex3a, r_ex3b, r_ex3c, r_nc, r_keepE, Nat.zero_add, Nat.add_zero, Nat.mul_one, Int.toNat_natCast, toNat_sub1, toNat_add1, decide_true, decide_false, Bool.not_true, Bool.not_false, if_true, if_false, Bool.false_eq_true, reduceCtorEq]
  refine r16_3 (w0 := w2) (hL.below k02) h2 (hin _ hmem) (by omega) (Kp.refl _) fun w' k' => ?_
  exact ⟨⟨i + 1, by omega, by omega, by go_num, Kp.trans k02 k'⟩, by simp only [intOf]; omega⟩

set_option maxRecDepth 100000 in
set_option maxHeartbeats 1000000 in
theorem r16_1 {bv lv mv : Value} {b : List Tile} {n : List Int} {L M : List (List Int)} {j : Nat} {w0 w : World} {next : Value → World → Prop} {R : Ending → World → Prop} (hb : setB b = true) (hbv : RdT w0 bv b) (hn : 1 ≤ n.length ∧ n.length ≤ 4) (hL : RdRows w0 lv L) (hLl : L.length ≤ 100000) (hM : RdRows w0 mv M) (hMl : M.length ≤ 100000)
    (hMc : ∀ m ∈ M, m.length = n.length ∧ ∀ x ∈ m, colB x = true) (hj : j < L.length) (hin : ∃ m ∈ M, L.getD j [] ∈ underL b m) (hk : Kp w0 w)
    (hnext : ∀ w', Kp w0 w' → next (.int .i64 ((j : Int) + 1)) w') : S16L1 bv (.int .i64 j) lv mv next R w := by
  obtain ⟨ma, mc, emv, hml⟩ := hM.len
  have lnm : ∀ K : Value → Prop, ln1 mv K = K (.int .i64 M.length) := fun K => by rw [emv]; rfl
  unfold S16L1
  refine ⟨fun t13 t14 wr => ∃ (i : Nat) (is : Bool), i ≤ M.length ∧ t14 = .int .i64 i ∧ t13 = .bool is ∧ (is = false → ∀ m ∈ M.take i, L.getD j [] ∉ underL b m) ∧ Kp w0 wr, fun _ t14 _ => M.length - (intOf t14).toNat, ⟨0, false, by omega, rfl, rfl, by simp, hk⟩, ?_⟩
  rintro _ _ _ wr ⟨i, is, hi, rfl, rfl, hno, kr⟩
  rw [lnm]
  have fin : is = true → (binQ Try.prog wr .add 3 true (.int .i64 j) (.int .i64 1) fun t88 => next t88 wr) := fun _ => by
    rw [r_add _ _ (by omega) (by omega)]
    exact hnext wr kr
  by_cases hlt : i < M.length
  case neg =>
    have hlt' : ¬ (i : Int) < (M.length : Int) := by omega
    cases is with
    | true =>
      simp only [r_lss, hlt', decide_false, r_gdFT, r_gdU, r_pickF, r_condF, r_not, Bool.not_true]
      exact fin rfl
    | false =>
      exfalso
      obtain ⟨m, hm, h⟩ := hin
      refine hno rfl m ?_ h
      rw [List.take_of_length_le (by omega)]; exact hm
  have hlt' : (i : Int) < (M.length : Int) := by omega
  cases is with
  | true =>
    simp only [r_lss, decide_eq_true hlt', r_gdTT, r_not, Bool.not_true, r_pickT, r_condF]
    exact fin rfl
  | false =>
  have hii : (i : Int).toNat = i := by omega
  obtain ⟨bb, off, cap, rv, ev, hc, hr⟩ := (hM.below kr).row hlt
  have hmem : M.getD i [] ∈ M := getD_mem hlt
  simp only [r_lss, decide_eq_true hlt', r_gdTT, r_not, Bool.not_false, r_pickT, r_condT]
  rw [ev, r_iaS _ _ _ _ _ _ _ (by omega) (by omega), hii, Nat.mul_one, r_ld hc]
  refine r_use fok49 (rows_b hb (hMc _ hmem) hn wr (hbv.kp kr) hr) rfl ?_
  rintro _ w2 ⟨k2, v2, rfl, h2⟩
  refine ⟨_, rfl, ?_⟩
  have k02 := Kp.trans kr k2
  have hjj : (j : Int).toNat = j := by omega
  obtain ⟨lb, lo, lc, lrv, elv, lcell, hlr⟩ := (hL.below k02).row hj
  simp (disch := omega) only [r_ln, r_pick, r_pickT, r_pickF, r_condT, r_condF, r_gdTT, r_gdFF, r_gdTF, r_gdFT, r_gqTT, r_gqFF, r_gqTF, r_gqFT, r_not, r_lss, r_leq, r_gtr, r_geq, r_eql, r_neq, r_add, r_sub, r_min2, r_max2, r_min3, r_max3, r_fa, r_iaS, r_iaA, r_ex2a, r_ex2b, r_ex3a, r_ex3b, r_ex3c, r_nc, r_keepE, Nat.zero_add, Nat.add_zero, Nat.mul_one, Int.toNat_natCast, toNat_sub1, toNat_add1, decide_true, decide_false, Bool.not_true, Bool.not_false, if_true, if_false, Bool.false_eq_true, reduceCtorEq]
  rw [elv, r_iaS _ _ _ _ _ _ _ (by omega) (by omega), hjj, Nat.mul_one, r_ld lcell]
  refine r_use fok52 (has_calls w2 h2 hlr) rfl ?_
  rintro _ w3 ⟨rfl, k3⟩
  refine ⟨_, rfl, ?_⟩
  refine ⟨⟨i + 1, _, by omega, by go_num, rfl, fun hd m hm => ?_, Kp.trans k02 k3⟩, by simp only [intOf]; omega⟩
  rw [take_succ' _ _ hlt] at hm
  rcases List.mem_append.1 hm with h | h
  · exact hno rfl m h
  · simp at h
    rw [h, ← getD_lt _ _ [] hlt]
    exact of_decide_eq_false hd

set_option maxRecDepth 100000 in
set_option maxHeartbeats 1000000 in
theorem trans_calls {av bv nv : Value} {a b : List Tile} {n : List Int} (wz : World) (ha : RdT wz av a) (hb : RdT wz bv b) (hn : RdI wz nv n) : Calls Try.prog 16 #[av, bv, nv] wz fun e w' => e = .returned (.bool true) ∧ Kp wz w' := by
  have ha0 := ha
  have hb0 := hb
  have hnI := hn
  obtain ⟨aa, ac, rfl, hac⟩ := ha.len
  obtain ⟨ba, bc, rfl, hbc⟩ := hb.len
  obtain ⟨na, nc, rfl, _, _⟩ := hn
  refine lift16 ?_
  unfold S16
  have fin : ∀ (w' : World), Kp wz w' → Calls Try.prog 18 #[] w' fun e w'' => e = .returned (.bool true) ∧ Kp wz w'' := fun w' k => (law_alive w').mono fun e w'' h => ⟨h.1, Kp.trans k h.2⟩
  have ali : ∀ (w' : World), Kp wz w' → callW Try.prog (.func (.func 18) #[] #[]) [] w' fun t w => (Ending.returned t = .returned (.bool true) ∧ Kp wz w) := fun w' k' => by
    refine r_use fok18 (fin w' k') rfl ?_
    rintro _ w2 ⟨rfl, k2⟩
    exact ⟨_, rfl, by first | rfl | trivial, k2⟩
  have go : ∀ (w' : World), Kp wz w' → callW Try.prog (.func (.func 18) #[] #[]) [] w' fun t w => pickQ (.bool true) t (.bool false) fun t55 => (Ending.returned t55 = .returned (.bool true) ∧ Kp wz w) := fun w' k' => by
    refine r_use fok18 (fin w' k') rfl ?_
    rintro _ w2 ⟨rfl, k2⟩
    refine ⟨_, rfl, ?_⟩
    simp only [r_pickT]
    exact ⟨by first | rfl | trivial, k2⟩
  by_cases h1 : (40 : Int) < (a.length : Int)
  · simp (disch := omega) only [r_ln, r_pick, r_pickT, r_pickF, r_condT, r_condF, r_gdTT, r_gdFF, r_gdTF, r_gdFT, r_gqTT, r_gqFF, r_gqTF, r_gqFT, r_not, r_lss, r_leq, r_gtr, r_geq, r_eql, r_neq, r_add, r_sub, r_min2, r_max2, r_min3, r_max3, r_fa, r_iaS, r_iaA, r_ex2a, r_ex2b, r_ex3a, r_ex3b, r_ex3c, r_nc, r_keepE, Nat.zero_add, Nat.add_zero, Nat.mul_one, Int.toNat_natCast, toNat_sub1, toNat_add1, decide_true, decide_false, Bool.not_true, Bool.not_false, if_true, if_false, Bool.false_eq_true, reduceCtorEq, decide_eq_true h1, r_gdU]
    exact ali wz (Kp.refl _)
  by_cases h2 : (40 : Int) < (b.length : Int)
  · simp (disch := omega) only [r_ln, r_pick, r_pickT, r_pickF, r_condT, r_condF, r_gdTT, r_gdFF, r_gdTF, r_gdFT, r_gqTT, r_gqFF, r_gqTF, r_gqFT, r_not, r_lss, r_leq, r_gtr, r_geq, r_eql, r_neq, r_add, r_sub, r_min2, r_max2, r_min3, r_max3, r_fa, r_iaS, r_iaA, r_ex2a, r_ex2b, r_ex3a, r_ex3b, r_ex3c, r_nc, r_keepE, Nat.zero_add, Nat.add_zero, Nat.mul_one, Int.toNat_natCast, toNat_sub1, toNat_add1, decide_true, decide_false, Bool.not_true, Bool.not_false, if_true, if_false, Bool.false_eq_true, reduceCtorEq, h1, decide_eq_true h2, r_gdU]
    exact ali wz (Kp.refl _)
  by_cases h3 : (4 : Int) < (n.length : Int)
  · simp (disch := omega) only [r_ln, r_pick, r_pickT, r_pickF, r_condT, r_condF, r_gdTT, r_gdFF, r_gdTF, r_gdFT, r_gqTT, r_gqFF, r_gqTF, r_gqFT, r_not, r_lss, r_leq, r_gtr, r_geq, r_eql, r_neq, r_add, r_sub, r_min2, r_max2, r_min3, r_max3, r_fa, r_iaS, r_iaA, r_ex2a, r_ex2b, r_ex3a, r_ex3b, r_ex3c, r_nc, r_keepE, Nat.zero_add, Nat.add_zero, Nat.mul_one, Int.toNat_natCast, toNat_sub1, toNat_add1, decide_true, decide_false, Bool.not_true, Bool.not_false, if_true, if_false, Bool.false_eq_true, reduceCtorEq, h1, h2, decide_eq_true h3, r_gdU]
    exact ali wz (Kp.refl _)
  have hn0 := hnI.small (by omega)
  simp (disch := omega) only [r_ln, r_pick, r_pickT, r_pickF, r_condT, r_condF, r_gdTT, r_gdFF, r_gdTF, r_gdFT, r_gqTT, r_gqFF, r_gqTF, r_gqFT, r_not, r_lss, r_leq, r_gtr, r_geq, r_eql, r_neq, r_add, r_sub, r_min2, r_max2, r_min3, r_max3, r_fa, r_iaS, r_iaA, r_ex2a, r_ex2b, r_ex3a, r_ex3b, r_ex3c, r_nc, r_keepE, Nat.zero_add, Nat.add_zero, Nat.mul_one, Int.toNat_natCast, toNat_sub1, toNat_add1, decide_true, decide_false, Bool.not_true, Bool.not_false, if_true, if_false, Bool.false_eq_true, reduceCtorEq, h1, h2, h3, r_gdU]
  refine r_use fok50 (prod50_calls wz ha0 hb0) rfl ?_
  rintro _ w1 ⟨k1, p1⟩
  obtain ⟨pv, rfl, hp⟩ := p1.form
  refine ⟨_, rfl, ?_⟩
  obtain ⟨pa, pc, rfl, _⟩ := hp.len
  have h20 : decide ((2 : Int) = 0) = false := by decide
  have h80 : decide ((8 : Int) = 0) = false := by decide
  have h00 : decide ((0 : Int) = 0) = true := rfl
  have hself : ∀ x : Int, decide (x = x) = true := fun x => decide_eq_true rfl
  -- no product, or an empty one
  by_cases hne : prodL a b = []
  · have hl0 : (prodL a b).length = 0 := by rw [hne]; rfl
    rw [hl0]
    have hn0 : decide (((0 : Nat) : Int) = 0) = true := rfl
    have := go w1 k1
    simp (disch := omega) only [r_pickT] at this
    by_cases he : prodE a b = 0
    · simp (disch := omega) only [r_ln, r_pick, r_pickT, r_pickF, r_condT, r_condF, r_gdTT, r_gdFF, r_gdTF, r_gdFT, r_gqTT, r_gqFF, r_gqTF, r_gqFT, r_not, r_lss, r_leq, r_gtr, r_geq, r_eql, r_neq, r_add, r_sub, r_min2, r_max2, r_min3, r_max3, r_fa, r_iaS, r_iaA, r_ex2a, r_ex2b, r_ex3a, r_ex3b, r_ex3c, r_nc, r_keepE, Nat.zero_add, Nat.add_zero, Nat.mul_one, Int.toNat_natCast, toNat_sub1, toNat_add1, decide_true, decide_false, Bool.not_true, Bool.not_false, if_true, if_false, Bool.false_eq_true, reduceCtorEq, decide_eq_true he, hn0, r_gdU]
      exact this
    · simp (disch := omega) only [r_ln, r_pick, r_pickT, r_pickF, r_condT, r_condF, r_gdTT, r_gdFF, r_gdTF, r_gdFT, r_gqTT, r_gqFF, r_gqTF, r_gqFT, r_not, r_lss, r_leq, r_gtr, r_geq, r_eql, r_neq, r_add, r_sub, r_min2, r_max2, r_min3, r_max3, r_fa, r_iaS, r_iaA, r_ex2a, r_ex2b, r_ex3a, r_ex3b, r_ex3c, r_nc, r_keepE, Nat.zero_add, Nat.add_zero, Nat.mul_one, Int.toNat_natCast, toNat_sub1, toNat_add1, decide_true, decide_false, Bool.not_true, Bool.not_false, if_true, if_false, Bool.false_eq_true, reduceCtorEq, he, hn0, r_gdU]
      exact this
  have hcond : (setB a && setB b) = true ∧ prodF (allP a b) = false := by
    unfold prodL at hne
    split at hne
    · assumption
    · exact absurd rfl hne
  have hE : prodE a b = 0 := by unfold prodE; rw [if_pos hcond.1, if_neg (by rw [hcond.2]; decide)]
  have hPL : prodL a b = prodT (allP a b) := by unfold prodL; rw [if_pos hcond]
  simp only [Bool.and_eq_true] at hcond
  obtain ⟨⟨hsa, hsb⟩, hF⟩ := hcond
  have hA := isSet_of hsa
  have hB := isSet_of hsb
  rw [hPL] at hne hp ⊢
  have hP := prod_set hA hB hF hne
  have hsP : setB (prodT (allP a b)) = true := by
    simp only [setB, freshB, Bool.and_eq_true, decide_eq_true_eq, List.all_eq_true, List.mem_range, Bool.not_eq_true', decide_eq_false_iff_not]
    refine ⟨⟨hP.pos, hP.most⟩, fun i hi => ⟨hP.cols _ (by unfold tl; exact getD_mem hi), fun hm => ?_⟩⟩
    obtain ⟨j, hj, e⟩ := List.mem_take_iff_getElem.1 hm
    unfold tl at e
    rw [getD_lt _ _ _ hi] at e
    exact List.pairwise_iff_getElem.1 (List.nodup_iff_pairwise_ne.1 hP.nodup) j i (by omega) hi (by omega) e
  have hlp : ¬ ((prodT (allP a b)).length : Int) = 0 := by have := hP.pos; omega
  rw [hE]
  simp (disch := omega) only [r_ln, r_pick, r_pickT, r_pickF, r_condT, r_condF, r_gdTT, r_gdFF, r_gdTF, r_gdFT, r_gqTT, r_gqFF, r_gqTF, r_gqFT, r_not, r_lss, r_leq, r_gtr, r_geq, r_eql, r_neq, r_add, r_sub, r_min2, r_max2, r_min3, r_max3, r_fa, r_iaS, r_iaA, r_ex2a, r_ex2b, r_ex3a, r_ex3b, r_ex3c, r_nc, r_keepE, Nat.zero_add, Nat.add_zero, Nat.mul_one, Int.toNat_natCast, toNat_sub1, toNat_add1, decide_true, decide_false, Bool.not_true, Bool.not_false, if_true, if_false, Bool.false_eq_true, reduceCtorEq, h00, hlp, r_gdU]
  have rows : ∀ x : List Tile, setB x = true → rowsOk x n = (sideB n.length && n.all colB) := fun x hx => by unfold rowsOk; rw [hx, Bool.true_and]
  refine r_use fok49 (rows49_calls w1 hp (hn0.below k1)) rfl ?_
  rintro _ w2 ⟨k2, p2⟩
  obtain ⟨lv, rfl, hl⟩ := p2.form
  refine ⟨_, rfl, ?_⟩
  have k02 := Kp.trans k1 k2
  simp (disch := omega) only [r_ln, r_pick, r_pickT, r_pickF, r_condT, r_condF, r_gdTT, r_gdFF, r_gdTF, r_gdFT, r_gqTT, r_gqFF, r_gqTF, r_gqFT, r_not, r_lss, r_leq, r_gtr, r_geq, r_eql, r_neq, r_add, r_sub, r_min2, r_max2, r_min3, r_max3, r_fa, r_iaS, r_iaA, r_ex2a, r_ex2b, r_ex3a, r_ex3b, r_ex3c, r_nc, r_keepE, Nat.zero_add, Nat.add_zero, Nat.mul_one, Int.toNat_natCast, toNat_sub1, toNat_add1, decide_true, decide_false, Bool.not_true, Bool.not_false, if_true, if_false, Bool.false_eq_true, reduceCtorEq]
  refine r_use fok49 (rows49_calls w2 (ha0.kp k02) (hn0.below k02)) rfl ?_
  rintro _ w3 ⟨k3, p3⟩
  obtain ⟨mv, rfl, hm⟩ := p3.form
  refine ⟨_, rfl, ?_⟩
  have k03 := Kp.trans k02 k3
  rw [rows _ hsP] at hl ⊢
  rw [rows _ hsa] at hm ⊢
  cases hok : (sideB n.length && n.all colB) with
  | false =>
    simp (disch := omega) only [r_ln, r_pick, r_pickT, r_pickF, r_condT, r_condF, r_gdTT, r_gdFF, r_gdTF, r_gdFT, r_gqTT, r_gqFF, r_gqTF, r_gqFT, r_not, r_lss, r_leq, r_gtr, r_geq, r_eql, r_neq, r_add, r_sub, r_min2, r_max2, r_min3, r_max3, r_fa, r_iaS, r_iaA, r_ex2a, r_ex2b, r_ex3a, r_ex3b, r_ex3c, r_nc, r_keepE, Nat.zero_add, Nat.add_zero, Nat.mul_one, Int.toNat_natCast, toNat_sub1, toNat_add1, decide_true, decide_false, Bool.not_true, Bool.not_false, if_true, if_false, Bool.false_eq_true, reduceCtorEq, hself, h20, r_gdU]
    have := go w3 k03
    simp (disch := omega) only [r_pickT] at this
    exact this
  | true =>
    rw [hok, if_pos rfl] at hl
    rw [hok, if_pos rfl] at hm
    simp only [Bool.and_eq_true] at hok
    have hnl : 1 ≤ n.length ∧ n.length ≤ 4 := by
      have := hok.1
      unfold sideB at this
      have := of_decide_eq_true this
      omega
    simp (disch := omega) only [r_ln, r_pick, r_pickT, r_pickF, r_condT, r_condF, r_gdTT, r_gdFF, r_gdTF, r_gdFT, r_gqTT, r_gqFF, r_gqTF, r_gqFT, r_not, r_lss, r_leq, r_gtr, r_geq, r_eql, r_neq, r_add, r_sub, r_min2, r_max2, r_min3, r_max3, r_fa, r_iaS, r_iaA, r_ex2a, r_ex2b, r_ex3a, r_ex3b, r_ex3c, r_nc, r_keepE, Nat.zero_add, Nat.add_zero, Nat.mul_one, Int.toNat_natCast, toNat_sub1, toNat_add1, decide_true, decide_false, Bool.not_true, Bool.not_false, if_true, if_false, Bool.false_eq_true, reduceCtorEq, hself, h00, r_gdU]
    have hLrow : ∀ s ∈ underL (prodT (allP a b)) n, s.length = n.length ∧ ∀ x ∈ s, colB x = true := fun s hs => under_cols hP.cols hs
    have hMrow : ∀ s ∈ underL a n, s.length = n.length ∧ ∀ x ∈ s, colB x = true := fun s hs => under_cols hA.cols hs
    have hLs := under_small (l := prodT (allP a b)) (n := n) hnl.2
    have hMs := under_small (l := a) (n := n) hnl.2
    have rdL : RdRows w3 lv (underL (prodT (allP a b)) n) := (hl.kp k3).rd (by unfold underL at hLs; omega) fun r hr => by rw [(hLrow r hr).1]; omega
    have rdM : RdRows w3 mv (underL a n) := hm.rd (by unfold underL at hMs; omega) fun r hr => by rw [(hMrow r hr).1]; omega
    have hiff := fun s => prod_rows hA hB hP.cols (n := n) (s := s)
    generalize underL (prodT (allP a b)) n = L at *
    have hmMl := hMs
    obtain ⟨la, lc, elv, _⟩ := rdL.len
    have lnl : ∀ K : Value → Prop, ln1 lv K = K (.int .i64 L.length) := fun K => by rw [elv]; rfl
    unfold S16L0
    refine ⟨fun t12 wr => ∃ j : Nat, j ≤ L.length ∧ t12 = .int .i64 j ∧ Kp w3 wr, fun t12 _ => L.length - (intOf t12).toNat, ⟨0, by omega, rfl, Kp.refl _⟩, ?_⟩
    rintro _ _ wr ⟨j, hj, rfl, kr⟩
    rw [lnl]
    by_cases hlt : j < L.length
    · have hlt' : (j : Int) < (L.length : Int) := by omega
      simp only [r_lss, decide_eq_true hlt', r_condT]
      refine r16_1 (n := n) (w0 := w3) hsb (hb0.kp k03) hnl rdL (by omega) rdM (by omega) hMrow hlt ?_ kr fun w' k' => ?_
      · obtain ⟨m, h4, h5⟩ := (hiff _).1 (getD_mem (d := []) hlt)
        exact ⟨m, h4, h5⟩
      · exact ⟨⟨j + 1, by omega, by go_num, k'⟩, by simp only [intOf]; omega⟩
    · have hlt' : ¬ (j : Int) < (L.length : Int) := by omega
      simp only [r_lss, hlt', decide_false, r_condF]
      refine r16_2 (n := n) (w0 := w3) hsb (hb0.kp k03) hnl rdL rdM hMrow (fun m h4 s h5 => (hiff s).2 ⟨m, h4, h5⟩) kr fun w' k' => ?_
      exact ali w' (Kp.trans k03 k')

end Go.Proofs.Ytgalbokmgffhkaa
