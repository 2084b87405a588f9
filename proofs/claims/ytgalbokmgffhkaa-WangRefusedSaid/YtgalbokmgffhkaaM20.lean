/- Texts of my own, merged by program: E7 Said Opens. -/
import Derived.Test.YtgalbokmgffhkaaM19
import Derived.Test.YtgalbokmgffhkaaM14
import Derived.Test.YtgalbokmgffhkaaM03
import Derived.ProofKit
import Derived.OpenShut
import Derived.Test.YtgalbokmgffhkaaM05
import Derived.Deep.Matrix
import Derived.Deep.Strs
import Derived.Deep.Slices
import Derived.Lib.SmallJoins
set_option linter.all false
/- Contract: Refutes of the specification. -/
namespace Go.Proofs.Ytgalbokmgffhkaa
open Go.Lf Go.RowKit Go.Wg

/-- Do the lists behind entry i stand? -/
def under (l : List Tile) (W : Nat) (proof : List (List Int)) (p : List Int) : Prop := ∀ s ∈ rfrom l (some (p.drop 1)) W [] 255, standsB proof s (p.getD 0 0) = true

theorem rfrom_small {l : List Tile} {nn : Option (List Int)} {W : Nat} (hW : W ≤ 4) : (rfrom l nn W [] 255).length ≤ 4096 :=
  Nat.le_trans (rfrom_len W [] 255) (Nat.le_trans (Nat.pow_le_pow_right (by omega) hW) (by decide))
theorem rfrom_rowlen {l : List Tile} {nn : Option (List Int)} {W : Nat} : ∀ r ∈ rfrom l nn W [] 255, r.length = W := fun r h => by
  have := rfrom_row W [] 255 r h
  simpa using this

set_option maxRecDepth 100000 in
/-- The loop over the lists of Souths of all rows. -/
theorem r20_4 {w0 w : World} {pv rv : Value} {proof R : List (List Int)} {W H : Nat} {K : Ending → World → Prop} (hp : RdRows w pv proof) (hR : RdRows w rv R) (hrl : ∀ r ∈ R, r.length = W) (hrow : ∀ p ∈ proof, p.length = W + 1) (hk : Kp w0 w)
    (hK : ∀ w' b, Kp w0 w' → (b = true ↔ ∀ s ∈ R, standsB proof s H = true) → K (.returned (.tuple #[.bool b, .int .i64 0])) w') : S20L4 (.int .i64 H) pv rv K w := by
  obtain ⟨ra, rc, rfl, _⟩ := hR.len
  unfold S20L4
  refine ⟨fun t wr => ∃ i : Nat, i ≤ R.length ∧ t = .int .i64 i ∧ (∀ s ∈ R.take i, standsB proof s H = true) ∧ Kp w wr, fun t _ => R.length - (intOf t).toNat, ⟨0, by omega, rfl, by simp, Kp.refl _⟩, ?_⟩
  rintro _ _ wr ⟨i, hi, rfl, hall, kr⟩
  by_cases hlt : i < R.length
  case neg =>
    have hlt' : ¬ (i : Int) < (R.length : Int) := by omega
    rw [List.take_of_length_le (by omega)] at hall
    simp (disch := omega) only [r_ln, r_pick, r_pickT, r_pickF, r_condT, r_condF, r_gdTT, r_gdFF, r_gdTF, r_gdFT, r_gqTT, r_gqFF, r_gqTF, r_gqFT, r_not, r_lss, r_leq, r_gtr, r_geq, r_eql, r_neq, r_add, r_sub, r_min2, r_max2, r_min3, r_max3, r_fa, r_iaS, r_iaA, r_ex2a, r_ex2b, r_ex3a, r_ex3b, r_ex3c, r_nc, r_keepE, Nat.zero_add, Nat.add_zero, Nat.mul_one, Int.toNat_natCast, toNat_sub1, toNat_add1, decide_true, decide_false, Bool.not_true, Bool.not_false, if_true, if_false, Bool.false_eq_true, reduceCtorEq, hlt']
    exact hK _ true (Kp.trans hk kr) ⟨fun _ => hall, fun _ => rfl⟩
  have hlt' : (i : Int) < (R.length : Int) := by omega
  obtain ⟨rb, ro, _, sv, er, hcell, hs⟩ := (hR.below kr).row hlt
  cases er
  have hii : (i : Int).toNat = i := by omega
  have hsl : (R.getD i []).length = W := hrl _ (getD_mem hlt)
  simp (disch := omega) only [r_ln, r_pick, r_pickT, r_pickF, r_condT, r_condF, r_gdTT, r_gdFF, r_gdTF, r_gdFT, r_gqTT, r_gqFF, r_gqTF, r_gqFT, r_not, r_lss, r_leq, r_gtr, r_geq, r_eql, r_neq, r_add, r_sub, r_min2, r_max2, r_min3, r_max3, r_fa, r_iaS, r_iaA, r_ex2a, r_ex2b, r_ex3a, r_ex3b, r_ex3c, r_nc, r_keepE, Nat.zero_add, Nat.add_zero, Nat.mul_one, Int.toNat_natCast, toNat_sub1, toNat_add1, decide_true, decide_false, Bool.not_true, Bool.not_false, if_true, if_false, Bool.false_eq_true, reduceCtorEq, decide_eq_true hlt', hii, r_ld hcell]
  refine r_use fok63 (stands_calls (k := H) wr (hp.below kr) hs (fun j hj => by rw [hsl]; exact hrow _ (getD_mem hj))) rfl ?_
  rintro _ w2 ⟨rfl, k2⟩
  refine ⟨_, rfl, ?_⟩
  have k02 := Kp.trans kr k2
  have hm : R.getD i [] ∈ R := getD_mem hlt
  cases hst : standsB proof (R.getD i []) H with
  | false =>
    simp (disch := omega) only [r_ln, r_pick, r_pickT, r_pickF, r_condT, r_condF, r_gdTT, r_gdFF, r_gdTF, r_gdFT, r_gqTT, r_gqFF, r_gqTF, r_gqFT, r_not, r_lss, r_leq, r_gtr, r_geq, r_eql, r_neq, r_add, r_sub, r_min2, r_max2, r_min3, r_max3, r_fa, r_iaS, r_iaA, r_ex2a, r_ex2b, r_ex3a, r_ex3b, r_ex3c, r_nc, r_keepE, Nat.zero_add, Nat.add_zero, Nat.mul_one, Int.toNat_natCast, toNat_sub1, toNat_add1, decide_true, decide_false, Bool.not_true, Bool.not_false, if_true, if_false, Bool.false_eq_true, reduceCtorEq]
    refine hK _ false (Kp.trans hk k02) ⟨fun h => absurd h Bool.false_ne_true, fun h => ?_⟩
    rw [h _ hm] at hst
    cases hst
  | true =>
    simp (disch := omega) only [r_ln, r_pick, r_pickT, r_pickF, r_condT, r_condF, r_gdTT, r_gdFF, r_gdTF, r_gdFT, r_gqTT, r_gqFF, r_gqTF, r_gqFT, r_not, r_lss, r_leq, r_gtr, r_geq, r_eql, r_neq, r_add, r_sub, r_min2, r_max2, r_min3, r_max3, r_fa, r_iaS, r_iaA, r_ex2a, r_ex2b, r_ex3a, r_ex3b, r_ex3c, r_nc, r_keepE, Nat.zero_add, Nat.add_zero, Nat.mul_one, Int.toNat_natCast, toNat_sub1, toNat_add1, decide_true, decide_false, Bool.not_true, Bool.not_false, if_true, if_false, Bool.false_eq_true, reduceCtorEq]
    refine ⟨⟨i + 1, by omega, by go_num, fun s hs' => ?_, k02⟩, by simp only [intOf]; omega⟩
    rw [take_succ' _ _ hlt, List.mem_append, ← getD_lt R i [] hlt] at hs'
    rcases hs' with h | h
    · exact hall s h
    · simp only [List.mem_singleton] at h
      rw [h]; exact hst

set_option maxRecDepth 100000 in
/-- The loop over the lists of Souths under an entry's colours. -/
theorem r20_3 {w0 w : World} {pv rv : Value} {proof R : List (List Int)} {W i : Nat} {next : Value → World → Prop} {K : Ending → World → Prop} (hp : RdRows w pv proof) (hi : i < proof.length) (hR : RdRows w rv R) (hrl : ∀ r ∈ R, r.length = W) (hrow : ∀ p ∈ proof, p.length = W + 1) (hk : Kp w0 w)
    (hno : ∀ w', Kp w0 w' → (∃ s ∈ R, standsB proof s ((proof.getD i []).getD 0 0) = false) → K (.returned (.tuple #[.bool false, .int .i64 0])) w')
    (hyes : ∀ w', Kp w0 w' → (∀ s ∈ R, standsB proof s ((proof.getD i []).getD 0 0) = true) → next (.int .i64 ((i : Int) + 1)) w') : S20L3 pv (.int .i64 i) rv next K w := by
  obtain ⟨ra, rc, rfl, _⟩ := hR.len
  obtain ⟨_, _, _, hpl⟩ := hp.len
  unfold S20L3
  refine ⟨fun t wr => ∃ j : Nat, j ≤ R.length ∧ t = .int .i64 j ∧ (∀ s ∈ R.take j, standsB proof s ((proof.getD i []).getD 0 0) = true) ∧ Kp w wr, fun t _ => R.length - (intOf t).toNat, ⟨0, by omega, rfl, by simp, Kp.refl _⟩, ?_⟩
  rintro _ _ wr ⟨j, hj, rfl, hall, kr⟩
  by_cases hlt : j < R.length
  case neg =>
    have hlt' : ¬ (j : Int) < (R.length : Int) := by omega
    rw [List.take_of_length_le (by omega)] at hall
    simp (disch := omega) only [r_ln, r_pick, r_pickT, r_pickF, r_condT, r_condF, r_gdTT, r_gdFF, r_gdTF, r_gdFT, r_gqTT, r_gqFF, r_gqTF, r_gqFT, r_not, r_lss, r_leq, r_gtr, r_geq, r_eql, r_neq, r_add, r_sub, r_min2, r_max2, r_min3, r_max3, r_fa, r_iaS, r_iaA, r_ex2a, r_ex2b, r_ex3a, r_ex3b, r_ex3c, r_nc, r_keepE, Nat.zero_add, Nat.add_zero, Nat.mul_one, Int.toNat_natCast, toNat_sub1, toNat_add1, decide_true, decide_false, Bool.not_true, Bool.not_false, if_true, if_false, Bool.false_eq_true, reduceCtorEq, hlt']
    exact hyes _ (Kp.trans hk kr) hall
  have hlt' : (j : Int) < (R.length : Int) := by omega
  simp (disch := omega) only [r_ln, r_pick, r_pickT, r_pickF, r_condT, r_condF, r_gdTT, r_gdFF, r_gdTF, r_gdFT, r_gqTT, r_gqFF, r_gqTF, r_gqFT, r_not, r_lss, r_leq, r_gtr, r_geq, r_eql, r_neq, r_add, r_sub, r_min2, r_max2, r_min3, r_max3, r_fa, r_iaS, r_iaA, r_ex2a, r_ex2b, r_ex3a, r_ex3b, r_ex3c, r_nc, r_keepE, Nat.zero_add, Nat.add_zero, Nat.mul_one, Int.toNat_natCast, toNat_sub1, toNat_add1, decide_true, decide_false, Bool.not_true, Bool.not_false, if_true, if_false, Bool.false_eq_true, reduceCtorEq, decide_eq_true hlt']
  refine r_drew fun wd kd _ => ?_
  have krd := Kp.trans kr kd
  obtain ⟨rb, ro, _, sv, er, hcell, hs⟩ := (hR.below krd).row hlt
  cases er
  obtain ⟨pb, po, _, qv, ep, pcell, hq⟩ := (hp.below krd).row hi
  subst ep
  have hpl3 : (proof.getD i []).length = W + 1 := hrow _ (getD_mem hi)
  obtain ⟨qb, qo, _, eq, qcell⟩ := hq.at (j := 0) (by omega)
  subst eq
  have hii : (i : Int).toNat = i := by omega
  have hjj : (j : Int).toNat = j := by omega
  have i0 : (0 : Int).toNat = 0 := rfl
  rw [Nat.add_zero] at qcell
  have hsl : (R.getD j []).length = W := hrl _ (getD_mem hlt)
  simp (disch := omega) only [r_ln, r_pick, r_pickT, r_pickF, r_condT, r_condF, r_gdTT, r_gdFF, r_gdTF, r_gdFT, r_gqTT, r_gqFF, r_gqTF, r_gqFT, r_not, r_lss, r_leq, r_gtr, r_geq, r_eql, r_neq, r_add, r_sub, r_min2, r_max2, r_min3, r_max3, r_fa, r_iaS, r_iaA, r_ex2a, r_ex2b, r_ex3a, r_ex3b, r_ex3c, r_nc, r_keepE, Nat.zero_add, Nat.add_zero, Nat.mul_one, Int.toNat_natCast, toNat_sub1, toNat_add1, decide_true, decide_false, Bool.not_true, Bool.not_false, if_true, if_false, Bool.false_eq_true, reduceCtorEq, hjj, r_ld hcell, hii, r_ld pcell, i0, Nat.zero_mul, r_ld qcell]
  refine r_use fok63 (stands_calls (k := (proof.getD i []).getD 0 0) wd (hp.below krd) hs (fun j hj => by rw [hsl]; exact hrow _ (getD_mem hj))) rfl ?_
  rintro _ w2 ⟨rfl, k2⟩
  refine ⟨_, rfl, ?_⟩
  have k02 := Kp.trans krd k2
  have hm : R.getD j [] ∈ R := getD_mem hlt
  cases hst : standsB proof (R.getD j []) ((proof.getD i []).getD 0 0) with
  | false =>
    simp (disch := omega) only [r_ln, r_pick, r_pickT, r_pickF, r_condT, r_condF, r_gdTT, r_gdFF, r_gdTF, r_gdFT, r_gqTT, r_gqFF, r_gqTF, r_gqFT, r_not, r_lss, r_leq, r_gtr, r_geq, r_eql, r_neq, r_add, r_sub, r_min2, r_max2, r_min3, r_max3, r_fa, r_iaS, r_iaA, r_ex2a, r_ex2b, r_ex3a, r_ex3b, r_ex3c, r_nc, r_keepE, Nat.zero_add, Nat.add_zero, Nat.mul_one, Int.toNat_natCast, toNat_sub1, toNat_add1, decide_true, decide_false, Bool.not_true, Bool.not_false, if_true, if_false, Bool.false_eq_true, reduceCtorEq]
    exact hno _ (Kp.trans hk k02) ⟨_, hm, hst⟩
  | true =>
    simp (disch := omega) only [r_ln, r_pick, r_pickT, r_pickF, r_condT, r_condF, r_gdTT, r_gdFF, r_gdTF, r_gdFT, r_gqTT, r_gqFF, r_gqTF, r_gqFT, r_not, r_lss, r_leq, r_gtr, r_geq, r_eql, r_neq, r_add, r_sub, r_min2, r_max2, r_min3, r_max3, r_fa, r_iaS, r_iaA, r_ex2a, r_ex2b, r_ex3a, r_ex3b, r_ex3c, r_nc, r_keepE, Nat.zero_add, Nat.add_zero, Nat.mul_one, Int.toNat_natCast, toNat_sub1, toNat_add1, decide_true, decide_false, Bool.not_true, Bool.not_false, if_true, if_false, Bool.false_eq_true, reduceCtorEq]
    refine ⟨⟨j + 1, by omega, by go_num, fun s hs' => ?_, k02⟩, by simp only [intOf]; omega⟩
    rw [take_succ' _ _ hlt, List.mem_append, ← getD_lt R j [] hlt] at hs'
    rcases hs' with h | h
    · exact hall s h
    · simp only [List.mem_singleton] at h
      rw [h]; exact hst

set_option maxRecDepth 100000 in
theorem r20_2 {w0 w : World} {v pv : Value} {l : List Tile} {proof : List (List Int)} {W H : Nat} {K : Ending → World → Prop} (hr : RdT w v l) (hs : setB l = true) (hW : 1 ≤ W ∧ W ≤ 4) (hp : RdRows w pv proof) (hrow : ∀ p ∈ proof, p.length = W + 1 ∧ (p.drop 1).all colB = true) (hk : Kp w0 w)
    (hK : ∀ w' b, Kp w0 w' → (b = true ↔ (∀ p ∈ proof, under l W proof p) ∧ ∀ s ∈ rfrom l none W [] 255, standsB proof s H = true) → K (.returned (.tuple #[.bool b, .int .i64 0])) w') : S20L2 v (.int .i64 W) (.int .i64 H) pv K w := by
  have hp' := hp
  obtain ⟨pa, pc, rfl, _⟩ := hp.len
  have hlen : ∀ p ∈ proof, p.length = W + 1 := fun p h => (hrow p h).1
  unfold S20L2
  refine ⟨fun t wr => ∃ i : Nat, i ≤ proof.length ∧ t = .int .i64 i ∧ (∀ p ∈ proof.take i, under l W proof p) ∧ Kp w wr, fun t _ => proof.length - (intOf t).toNat, ⟨0, by omega, rfl, by simp, Kp.refl _⟩, ?_⟩
  rintro _ _ wr ⟨i, hi, rfl, hall, kr⟩
  by_cases hlt : i < proof.length
  case neg =>
    have hlt' : ¬ (i : Int) < (proof.length : Int) := by omega
    rw [List.take_of_length_le (by omega)] at hall
    simp (disch := omega) only [r_ln, r_pick, r_pickT, r_pickF, r_condT, r_condF, r_gdTT, r_gdFF, r_gdTF, r_gdFT, r_gqTT, r_gqFF, r_gqTF, r_gqFT, r_not, r_lss, r_leq, r_gtr, r_geq, r_eql, r_neq, r_add, r_sub, r_min2, r_max2, r_min3, r_max3, r_fa, r_iaS, r_iaA, r_ex2a, r_ex2b, r_ex3a, r_ex3b, r_ex3c, r_nc, r_keepE, Nat.zero_add, Nat.add_zero, Nat.mul_one, Int.toNat_natCast, toNat_sub1, toNat_add1, decide_true, decide_false, Bool.not_true, Bool.not_false, if_true, if_false, Bool.false_eq_true, reduceCtorEq, hlt']
    refine r_use fok64 (firsts_calls (W := W) wr (hr.kp kr) (isSet_of hs) hW) rfl ?_
    rintro _ w2 ⟨v2, rfl, k2, o2⟩
    refine ⟨_, rfl, ?_⟩
    have hRl := rfrom_rowlen (l := l) (nn := none) (W := W)
    have hR : RdRows w2 v2 (rfrom l none W [] 255) := o2.rd (by have := rfrom_small (l := l) (nn := none) hW.2; omega) (fun r h => by rw [hRl r h]; omega)
    refine r20_4 (hp'.below (Kp.trans kr k2)) hR hRl hlen (Kp.trans hk (Kp.trans kr k2)) fun w' b kk hb => hK w' b kk ?_
    rw [hb]
    exact ⟨fun h => ⟨hall, h⟩, fun h => h.2⟩
  have hlt' : (i : Int) < (proof.length : Int) := by omega
  obtain ⟨pb, po, _, qv, ep, pcell, hq⟩ := (hp'.below kr).row hlt
  cases ep
  have hm : proof.getD i [] ∈ proof := getD_mem hlt
  have hpl := (hrow _ hm).1
  obtain ⟨qa, qc, rfl, _, _⟩ := hq.len
  have htail := rd_from (j := 1) hq (by omega)
  have hii : (i : Int).toNat = i := by omega
  have i1 : (1 : Int).toNat = 1 := rfl
  have hdl : ((proof.getD i []).drop 1).length = W := by rw [List.length_drop]; omega
  rw [Nat.mul_one] at htail
  simp (disch := omega) only [r_ln, r_pick, r_pickT, r_pickF, r_condT, r_condF, r_gdTT, r_gdFF, r_gdTF, r_gdFT, r_gqTT, r_gqFF, r_gqTF, r_gqFT, r_not, r_lss, r_leq, r_gtr, r_geq, r_eql, r_neq, r_add, r_sub, r_min2, r_max2, r_min3, r_max3, r_fa, r_iaS, r_iaA, r_ex2a, r_ex2b, r_ex3a, r_ex3b, r_ex3c, r_nc, r_keepE, Nat.zero_add, Nat.add_zero, Nat.mul_one, Int.toNat_natCast, toNat_sub1, toNat_add1, decide_true, decide_false, Bool.not_true, Bool.not_false, if_true, if_false, Bool.false_eq_true, reduceCtorEq, decide_eq_true hlt', hii, r_ld pcell, r_slFrom, i1]
  refine r_use fok48 (refrows_calls wr (hr.kp kr) htail) rfl ?_
  rintro _ w2 ⟨k2, hpost⟩
  have hok : rowsOk l ((proof.getD i []).drop 1) = true := by
    simp only [rowsOk, Bool.and_eq_true, hs, (hrow _ hm).2, sideB, decide_eq_true_eq]
    refine ⟨⟨trivial, by omega⟩, trivial⟩
  rcases hpost with ⟨h, _⟩ | ⟨_, v2, rfl, o2⟩
  · rw [hok] at h; cases h
  rw [hdl] at o2
  refine ⟨_, rfl, ?_⟩
  simp (disch := omega) only [r_ln, r_pick, r_pickT, r_pickF, r_condT, r_condF, r_gdTT, r_gdFF, r_gdTF, r_gdFT, r_gqTT, r_gqFF, r_gqTF, r_gqFT, r_not, r_lss, r_leq, r_gtr, r_geq, r_eql, r_neq, r_add, r_sub, r_min2, r_max2, r_min3, r_max3, r_fa, r_iaS, r_iaA, r_ex2a, r_ex2b, r_ex3a, r_ex3b, r_ex3c, r_nc, r_keepE, Nat.zero_add, Nat.add_zero, Nat.mul_one, Int.toNat_natCast, toNat_sub1, toNat_add1, decide_true, decide_false, Bool.not_true, Bool.not_false, if_true, if_false, Bool.false_eq_true, reduceCtorEq]
  have k02 := Kp.trans kr k2
  have hRl := rfrom_rowlen (l := l) (nn := some ((proof.getD i []).drop 1)) (W := W)
  have hR : RdRows w2 v2 (rfrom l (some ((proof.getD i []).drop 1)) W [] 255) := o2.rd (by have := rfrom_small (l := l) (nn := some ((proof.getD i []).drop 1)) hW.2; omega) (fun r h => by rw [hRl r h]; omega)
  refine r20_3 (w0 := w) (hp'.below k02) hlt hR hRl hlen k02 (fun w' kk ⟨s, hsm, hsf⟩ => ?_) (fun w' kk hyes => ?_)
  · refine hK w' false (Kp.trans hk kk) ⟨fun h => absurd h Bool.false_ne_true, fun h => ?_⟩
    have := h.1 _ hm s hsm
    rw [hsf] at this
    cases this
  · refine ⟨⟨i + 1, by omega, by go_num, fun p hp2 => ?_, kk⟩, by simp only [intOf]; omega⟩
    rw [take_succ' _ _ hlt, List.mem_append, ← getD_lt proof i [] hlt] at hp2
    rcases hp2 with h | h
    · exact hall p h
    · simp only [List.mem_singleton] at h
      rw [h]; exact hyes

set_option maxRecDepth 100000 in
theorem r20_1 {w0 w : World} {pv : Value} {proof : List (List Int)} {W i : Nat} {next : Value → World → Prop} {K : Ending → World → Prop} (hp : RdRows w pv proof) (hi : i < proof.length) (hlen : (proof.getD i []).length = W + 1) (hW : W ≤ 4) (hk : Kp w0 w)
    (hno : ∀ w', Kp w0 w' → ((proof.getD i []).drop 1).all colB = false → K (.returned (.tuple #[.bool false, .int .i64 0])) w')
    (hyes : ∀ w', Kp w0 w' → ((proof.getD i []).drop 1).all colB = true → next (.int .i64 ((i : Int) + 1)) w') : S20L1 (.int .i64 W) pv (.int .i64 i) next K w := by
  unfold S20L1
  obtain ⟨_, _, _, hpl⟩ := hp.len
  refine ⟨fun t wr => ∃ x : Nat, x ≤ W ∧ t = .int .i64 ((x : Int) + 1) ∧ (((proof.getD i []).drop 1).take x).all colB = true ∧ Kp w wr, fun t _ => W + 1 - (intOf t).toNat, ⟨0, by omega, rfl, rfl, Kp.refl _⟩, ?_⟩
  rintro _ _ wr ⟨x, hx, rfl, hall, kr⟩
  have hdl : ((proof.getD i []).drop 1).length = W := by rw [List.length_drop]; omega
  by_cases hlt : x < W
  case neg =>
    have hlt' : ¬ (x : Int) + 1 ≤ (W : Int) := by omega
    rw [List.take_of_length_le (by omega)] at hall
    simp (disch := omega) only [r_ln, r_pick, r_pickT, r_pickF, r_condT, r_condF, r_gdTT, r_gdFF, r_gdTF, r_gdFT, r_gqTT, r_gqFF, r_gqTF, r_gqFT, r_not, r_lss, r_leq, r_gtr, r_geq, r_eql, r_neq, r_add, r_sub, r_min2, r_max2, r_min3, r_max3, r_fa, r_iaS, r_iaA, r_ex2a, r_ex2b, r_ex3a, r_ex3b, r_ex3c, r_nc, r_keepE, Nat.zero_add, Nat.add_zero, Nat.mul_one, Int.toNat_natCast, toNat_sub1, toNat_add1, decide_true, decide_false, Bool.not_true, Bool.not_false, if_true, if_false, Bool.false_eq_true, reduceCtorEq, hlt']
    exact hyes _ (Kp.trans hk kr) hall
  have hlt' : (x : Int) + 1 ≤ (W : Int) := by omega
  obtain ⟨pb, po, _, qv, ep, pcell, hq⟩ := (hp.below kr).row hi
  subst ep
  obtain ⟨qb, qo, _, eq, qcell⟩ := hq.at (j := x + 1) (by omega)
  subst eq
  have hii : (i : Int).toNat = i := by omega
  have hxx : ((x : Int) + 1).toNat = x + 1 := by omega
  simp (disch := omega) only [r_ln, r_pick, r_pickT, r_pickF, r_condT, r_condF, r_gdTT, r_gdFF, r_gdTF, r_gdFT, r_gqTT, r_gqFF, r_gqTF, r_gqFT, r_not, r_lss, r_leq, r_gtr, r_geq, r_eql, r_neq, r_add, r_sub, r_min2, r_max2, r_min3, r_max3, r_fa, r_iaS, r_iaA, r_ex2a, r_ex2b, r_ex3a, r_ex3b, r_ex3c, r_nc, r_keepE, Nat.zero_add, Nat.add_zero, Nat.mul_one, Int.toNat_natCast, toNat_sub1, toNat_add1, decide_true, decide_false, Bool.not_true, Bool.not_false, if_true, if_false, Bool.false_eq_true, reduceCtorEq, decide_eq_true hlt', hii, r_ld pcell, hxx, r_ld qcell]
  refine r_use fok62 (refcolour_calls _ wr) rfl ?_
  rintro _ _ ⟨rfl, rfl⟩
  refine ⟨_, rfl, ?_⟩
  have hxd : x < ((proof.getD i []).drop 1).length := by omega
  have e1 : ((proof.getD i []).drop 1)[x] = (proof.getD i []).getD (x + 1) 0 := by
    rw [List.getElem_drop, getD_lt (proof.getD i []) (x + 1) 0 (by omega)]
    congr 1
    omega
  cases hcol : colB ((proof.getD i []).getD (x + 1) 0) with
  | false =>
    simp (disch := omega) only [r_ln, r_pick, r_pickT, r_pickF, r_condT, r_condF, r_gdTT, r_gdFF, r_gdTF, r_gdFT, r_gqTT, r_gqFF, r_gqTF, r_gqFT, r_not, r_lss, r_leq, r_gtr, r_geq, r_eql, r_neq, r_add, r_sub, r_min2, r_max2, r_min3, r_max3, r_fa, r_iaS, r_iaA, r_ex2a, r_ex2b, r_ex3a, r_ex3b, r_ex3c, r_nc, r_keepE, Nat.zero_add, Nat.add_zero, Nat.mul_one, Int.toNat_natCast, toNat_sub1, toNat_add1, decide_true, decide_false, Bool.not_true, Bool.not_false, if_true, if_false, Bool.false_eq_true, reduceCtorEq]
    refine hno _ (Kp.trans hk kr) ?_
    cases hh : ((proof.getD i []).drop 1).all colB with
    | false => rfl
    | true =>
      have := List.all_eq_true.1 hh _ (List.getElem_mem hxd)
      rw [e1, hcol] at this
      cases this
  | true =>
    simp (disch := omega) only [r_ln, r_pick, r_pickT, r_pickF, r_condT, r_condF, r_gdTT, r_gdFF, r_gdTF, r_gdFT, r_gqTT, r_gqFF, r_gqTF, r_gqFT, r_not, r_lss, r_leq, r_gtr, r_geq, r_eql, r_neq, r_add, r_sub, r_min2, r_max2, r_min3, r_max3, r_fa, r_iaS, r_iaA, r_ex2a, r_ex2b, r_ex3a, r_ex3b, r_ex3c, r_nc, r_keepE, Nat.zero_add, Nat.add_zero, Nat.mul_one, Int.toNat_natCast, toNat_sub1, toNat_add1, decide_true, decide_false, Bool.not_true, Bool.not_false, if_true, if_false, Bool.false_eq_true, reduceCtorEq]
    refine ⟨⟨x + 1, by omega, by go_num, ?_, kr⟩, by simp only [intOf]; omega⟩
    rw [take_succ' _ _ hxd, List.all_append, hall, e1, List.all_cons, List.all_nil, hcol]
    rfl

end Go.Proofs.Ytgalbokmgffhkaa

/- From a contract that a law returns true to the given statement. -/
namespace Go.Proofs.Ytgalbokmgffhkaa
open Go.ChangeShapes Go.WideShapes Go.ChangeAt Go.RowKit Go.Lf

theorem own : ownKnob Try.prog.godebug = none := by kernel_rfl
theorem laid : laidOutB Try.prog = true := by kernel_rfl
theorem und4 : Try.prog.underlying 4 = some .bool := by kernel_rfl

section
variable {H : Type} {enc : TypeId × Value → H}

theorem below_trodAll {P : Program} (hl : laidOutB P = true) {W W' : World} (hb : Below W.heap.size W W') (ts : List TypeId) : ∀ {vs : List Value} {ds : List (DataW H)} {p : List MemPlace},
    (ts.all fun t => P.readableRec t && Nat.blt t P.types.size) = true → DataW.TrodAll enc P W 0 (fun _ => true) true ts vs ds p → (∀ x ∈ p, x.block < W.heap.size) →
      DataW.TrodAll enc P W' 0 (fun b => decide (b < W.heap.size)) true ts vs ds p := by
  induction ts with
  | nil =>
    intro vs ds p _ h _
    obtain ⟨rfl, rfl, rfl⟩ := trodAll_nil h
    exact trodAll_mk0
  | cons t ts ih =>
    intro vs ds p hr h hlt
    obtain ⟨v, vs', d, ds', p0, q0, rfl, rfl, rfl, h0, r0⟩ := trodAll_cons h
    simp only [List.all_cons, Bool.and_eq_true, Nat.blt_eq] at hr
    exact trodAll_cons_mk (Below.trod hl hr.1.1 hr.1.2 h0 hb fun x hx => hlt x (by simp [hx])) (ih (by simpa using hr.2) r0 fun x hx => hlt x (by simp [hx]))

theorem trodAll_length {P : Program} {W : World} {base : Nat} {sp : Nat → Bool} {hd : Bool} (ts : List TypeId) : ∀ {vs : List Value} {ds : List (DataW H)} {p : List MemPlace}, DataW.TrodAll enc P W base sp hd ts vs ds p → vs.length = ts.length ∧ ds.length = ts.length := by
  induction ts with
  | nil =>
    intro vs ds p h
    obtain ⟨rfl, rfl, rfl⟩ := trodAll_nil h
    exact ⟨rfl, rfl⟩
  | cons t ts ih =>
    intro vs ds p h
    obtain ⟨v, vs', d, ds', p0, q0, rfl, rfl, rfl, h0, r0⟩ := trodAll_cons h
    have := ih r0
    simp only [List.length_cons]
    omega

set_option maxRecDepth 100000 in
theorem law_lifted {s : ChangeSpec} {conds : List PathCond} {f : FuncId} {fn : Func} {os : Os} (started : os.Started) (hvars : s.vars = []) (noInit : Try.prog.inits.idxOf? f = none) (hfn : Try.prog.funcs[f]? = some fn)
    (hres : fn.resultTypes = #[4]) (hread : (fn.params.toList.all fun t => Try.prog.readableRec t && Nat.blt t Try.prog.types.size) = true)
    (hspec : ∀ ds : List (DataW H), ds.length = fn.params.toList.length → (s.fn H ds).results = [.lit (.bool true)] ∧ (s.fn H ds).args = ds ∧ (s.fn H ds).vars = [])
    (wit : ∃ (w : World) (tape : Tape) (i : Input), w.os = os ∧ (w.forCall tape i).Shaped Try.prog ∧ i.vars = [] ∧ Input.okWide Try.prog (w.forCall tape i) .any w.heap.size f i ∧
      s.pre6 enc Try.prog fn conds false (w.forCall tape i).memory i.args ∧ ({} : Assume).holds Try.prog (lone (Frame.enter Try.prog f i.args .normal) [] (w.forCall tape i)))
    (walk : ∀ (W : World) (base : Nat) (args : Array Value) (ds : List (DataW H)) (p : List MemPlace), (∀ (j : Nat) t v, fn.params[j]? = some t → args[j]? = some v → Value.okWide Try.prog W .any base t v) →
      DataW.TrodAll enc Try.prog W 0 (fun _ => true) true fn.params.toList args.toList ds p → Calls Try.prog f args W fun e W' => e = .returned (.bool true) ∧ Kp W W') :
    ReturnsInHanded {} Try.checked os f .any (s.pre6 enc Try.prog fn conds false) (s.post enc Try.prog fn false true false false) := by
  refine returnsInHanded_of_change (C := Try.checked) own started noInit hfn wit ?_
  intro W base args ds gs before hval hW hcnd _
  have hW' := hW
  obtain ⟨p, q, hA, hV, rfl, _, _⟩ := hW
  rw [hvars] at hV
  obtain ⟨rfl, rfl⟩ := trodVars_none hV
  have hlt : ∀ x ∈ p, x.block < W.heap.size := fun x hx => hW'.lt x (by simp [hx])
  have hlen := (trodAll_length _ hA).2
  obtain ⟨g1, g2, g3⟩ := hspec ds hlen
  refine (walk W base args ds p hval hA).mono fun e W' ⟨he, hk⟩ => ?_
  subst he
  refine ⟨_, rfl, ds, [], p ++ [], [], p, [], hW', ?_, ?_, ?_, hk.frame _, fun h => by cases h⟩
  · rw [List.append_nil, g1, hres]
    exact trodAll_mk1 (shut_bool und4 _)
  · rw [List.append_nil, g2]
    exact below_trodAll laid hk _ hread hA hlt
  · rw [List.append_nil, g3, hvars]
    rfl

end

theorem wf_u8 {n : Int} (h : (Lit.int .u8 n).wf = true) : ∃ k : Nat, n = k ∧ k ≤ 255 := by
  have e1 : IntKind.u8.min = 0 := by decide
  have e2 : IntKind.u8.max = 255 := by decide
  simp [Lit.wf, e1, e2] at h
  exact ⟨n.toNat, by omega, by omega⟩
theorem wf_u32 {n : Int} (h : (Lit.int .u32 n).wf = true) : ∃ k : Nat, n = k ∧ k ≤ 4294967295 := by
  have e1 : IntKind.u32.min = 0 := by decide
  have e2 : IntKind.u32.max = 4294967295 := by decide
  simp [Lit.wf, e1, e2] at h
  exact ⟨n.toNat, by omega, by omega⟩
theorem wf_i64 {n : Int} (h : (Lit.int .i64 n).wf = true) : -9223372036854775808 ≤ n ∧ n ≤ 9223372036854775807 := by
  have e1 : IntKind.i64.min = -9223372036854775808 := by decide
  have e2 : IntKind.i64.max = 9223372036854775807 := by decide
  simpa [Lit.wf, e1, e2] using h

theorem und3 : Try.prog.underlying 3 = some (.int .i64) := by kernel_rfl
theorem und5 : Try.prog.underlying 5 = some (.int .u8) := by kernel_rfl

end Go.Proofs.Ytgalbokmgffhkaa

/- What arguments read as: sets of tiles, lists of lists of integers, lists of integers. -/
namespace Go.Proofs.Ytgalbokmgffhkaa
open Go.ChangeShapes Go.WideShapes Go.ChangeAt Go.RowKit Go.Lf Go.Deep Go.Wg

/-- The slice v reads as l, of whatever length. -/
def RdI (w : World) (v : Value) (l : List Int) : Prop :=
  ∃ a cap, v = .slice a l.length cap ∧ l.length ≤ cap ∧ (0 < l.length → ∃ b off, a = some ⟨b, off, none⟩ ∧ ∀ i, i < l.length → w.cell? ⟨b, off + i, none⟩ = some (.int .i64 (l.getD i 0)))
/-- The slice v reads as the lists h, of whatever length. -/
def RdR (w : World) (v : Value) (h : List (List Int)) : Prop :=
  ∃ a cap, ∃ vs : Nat → Value, v = .slice a h.length cap ∧ h.length ≤ cap ∧ (0 < h.length → ∃ b off, a = some ⟨b, off, none⟩ ∧ ∀ i, i < h.length → w.cell? ⟨b, off + i, none⟩ = some (vs i)) ∧ ∀ i, i < h.length → RdI w (vs i) (h.getD i [])

theorem RdI.small {w : World} {v : Value} {l : List Int} (h : RdI w v l) (hl : l.length ≤ 1000000) : RdInts w v l :=
  let ⟨a, cap, h1, h2, h3⟩ := h; ⟨a, cap, h1, ⟨by omega, h2⟩, h3⟩
theorem RdR.small {w : World} {v : Value} {h : List (List Int)} (hr : RdR w v h) (hl : h.length ≤ 1000000) (hr2 : ∀ i, i < h.length → (h.getD i []).length ≤ 1000000) : RdRows w v h :=
  let ⟨a, cap, vs, h1, h2, h3, h4⟩ := hr; ⟨a, cap, vs, h1, by omega, h3, fun i hi => (h4 i hi).small (hr2 i hi)⟩

section
variable {H : Type} {enc : TypeId × Value → H}

theorem und22 : Try.prog.underlying 22 = some (.slice 32) := by kernel_rfl
theorem und23 : Try.prog.underlying 23 = some (.slice 30) := by kernel_rfl
theorem und30 : Try.prog.underlying 30 = some (.slice 3) := by kernel_rfl
theorem cellsOf30 : Try.prog.cellsOf 30 = 1 := by kernel_rfl
theorem cellsOf3 : Try.prog.cellsOf 3 = 1 := by kernel_rfl
theorem cellsOf32 : Try.prog.cellsOf 32 = 4 := by kernel_rfl

set_option maxRecDepth 100000 in
theorem open_rows {W : World} {base : Nat} {v : Value} {d : DataW H} {p : List MemPlace} (hv : Value.okWide Try.prog W .any base 23 v) (h : DataW.Trod enc Try.prog W 0 (fun _ => true) true 23 v d p) : ∃ l, RdR W v l := by
  obtain ⟨a0, n0, c0, rfl⟩ := okWide_slice und23 hv
  obtain ⟨fuel, hf⟩ := h
  rcases open_int_rows und23 und30 und3 cellsOf30 cellsOf3 hf with ⟨hcs, _⟩ | ⟨a, len, cap, A, L, C, Z, hcs, _, hl, _, _, hx⟩
  · simp [Value.cells] at hcs
    obtain ⟨rfl, rfl, rfl⟩ := hcs
    exact ⟨[], none, 0, fun _ => undef, rfl, Nat.le_refl _, fun h => absurd h (by simp), fun i hi => absurd hi (by simp)⟩
  · simp [Value.cells] at hcs
    obtain ⟨rfl, rfl, rfl⟩ := hcs
    refine ⟨(List.range n0).map fun r => (Z r).take (L r), some a, c0, fun r => .slice (A r) (L r) (C r), by simp, by simpa using hl, fun h0 => ?_, fun i hi => ?_⟩
    · simp only [List.length_map, List.length_range] at h0 ⊢
      obtain ⟨b, off, spot⟩ := a
      have hspot : spot = none := by simpa [Addr.add] using World.cell?_spot (hx 0 (by omega)).1
      subst hspot
      refine ⟨b, off, rfl, fun i hi => ?_⟩
      have := (hx i (by omega)).1
      rwa [r_addr] at this
    · simp only [List.length_map, List.length_range] at hi
      obtain ⟨_, g1, _, g3, _, _, g6⟩ := hx i (by omega)
      have e : ((List.range n0).map fun r => (Z r).take (L r)).getD i [] = (Z i).take (L i) := by simp [List.getD_eq_getElem?_getD, hi]
      rw [e]
      have el : ((Z i).take (L i)).length = L i := by rw [List.length_take]; omega
      refine ⟨A i, C i, by rw [el], by rw [el]; exact g1, fun h0 => ?_⟩
      rw [el] at h0 ⊢
      cases hA : A i with
      | none =>
        have := (hx i (by omega)).2.2.2.2.2.1 hA
        omega
      | some a' =>
        obtain ⟨_, hcell⟩ := g6 a' hA
        obtain ⟨b, off, spot⟩ := a'
        have hspot : spot = none := by simpa [Addr.add] using World.cell?_spot (hcell 0 (by omega))
        subst hspot
        refine ⟨b, off, rfl, fun j hj => ?_⟩
        have := hcell j (by omega)
        rw [r_addr] at this
        rw [this]
        simp [List.getD_eq_getElem?_getD, List.getElem?_take, hj]

set_option maxRecDepth 100000 in
theorem open_set {W : World} {base : Nat} {v : Value} {d : DataW H} {p : List MemPlace} (hv : Value.okWide Try.prog W .any base 22 v) (h : DataW.Trod enc Try.prog W 0 (fun _ => true) true 22 v d p) : ∃ l, RdT W v l := by
  obtain ⟨a0, n0, c0, rfl⟩ := okWide_slice und22 hv
  obtain ⟨fuel, hf⟩ := h
  rcases open_slice und22 hf with ⟨hcs, _⟩ | ⟨a, len, cap, m, n, D, Pl, hcs, _, hl, _, hm, _, hx⟩
  · simp [Value.cells] at hcs
    obtain ⟨rfl, rfl, rfl⟩ := hcs
    exact ⟨[], Rd.nil⟩
  · simp [Value.cells] at hcs
    obtain ⟨rfl, rfl, rfl⟩ := hcs
    simp only [if_true] at hm
    have hm' := hm.symm
    subst hm'
    rw [cellsOf32] at hx
    have each : ∀ i, i < n0 → ∃ t : Tile, ∀ j u, (tlC t)[j]? = some u → W.cell? (a.add (i * 4 + j)) = some u := fun i hi => by
      obtain ⟨cs', h1, h2⟩ := hx i (by omega)
      obtain ⟨_, hlen, hcell⟩ := World.cells?_some h1
      obtain ⟨y0, y1, y2, y3, n', _, _, t0, t1, t2, t3⟩ := Go.Joins.trod_struct4 Try.underlying32 h2
      obtain ⟨A, hA, _⟩ := DataW.trod_int und3 t0
      obtain ⟨B, hB, _⟩ := DataW.trod_int und3 t1
      obtain ⟨C, hC, _⟩ := DataW.trod_int und3 t2
      obtain ⟨E, hE, _⟩ := DataW.trod_int und3 t3
      simp only [cellsOf3] at hA hB hC hE
      match cs', hlen with
      | [x, y, z, u], _ =>
        simp at hA hB hC hE
        subst hA; subst hB; subst hC; subst hE
        refine ⟨(A, B, C, E), fun j u hj => ?_⟩
        have hj4 : j < 4 := by
          have := (List.getElem?_eq_some_iff.1 hj).1
          simpa [tlC] using this
        have hc := hcell j hj4
        rw [add_add] at hc
        rw [hc]
        match j, hj4 with
        | 0, _ => exact hj
        | 1, _ => exact hj
        | 2, _ => exact hj
        | 3, _ => exact hj
    obtain ⟨T, hT⟩ := choose_lt each
    refine ⟨(List.range n0).map T, some a, c0, by simp, by simpa using hl, fun h0 => ?_⟩
    simp only [List.length_map, List.length_range] at h0
    obtain ⟨b, off, spot⟩ := a
    have hspot : spot = none := by simpa [Addr.add] using World.cell?_spot (hT 0 h0 0 _ rfl)
    subst hspot
    refine ⟨b, off, rfl, fun i x hi j u hu => ?_⟩
    rw [List.getElem?_map] at hi
    cases hr : (List.range n0)[i]? with
    | none => rw [hr] at hi; cases hi
    | some k =>
      rw [hr] at hi
      cases hi
      have hk : i < n0 ∧ k = i := by
        have h1 := (List.getElem?_eq_some_iff.1 hr).1
        have h2 := (List.getElem?_eq_some_iff.1 hr).2
        simp at h1 h2
        exact ⟨h1, h2.symm⟩
      obtain ⟨hk1, rfl⟩ := hk
      have := hT k hk1 j u hu
      rw [r_addr] at this
      rw [← Nat.add_assoc] at this
      exact this

end

end Go.Proofs.Ytgalbokmgffhkaa
