/- Contract: Refutes of the specification. -/
import Derived.Test.YtgalbokmgffhkaaE6
import Derived.Test.YtgalbokmgffhkaaB9
set_option linter.all false
namespace Go.Proofs.Ytgalbokmgffhkaa
open Go.Lf Go.RowKit Go.Wg

/-- Do the lists behind entry i stand? -/
def under (l : List Tile) (W : Nat) (proof : List (List Int)) (p : List Int) : Prop := ∀ s ∈ rfrom l (some (p.drop 1)) W [] 255, standsB proof s (p.getD 0 0) = true

theorem rfrom_small {l : List Tile} {nn : Option (List Int)} {W : Nat} (hW : W ≤ 4) : (rfrom l nn W [] 255).length ≤ 4096 :=
  Nat.le_trans (rfrom_len W [] 255) (Nat.le_trans (Nat.pow_le_pow_right (by omega) hW) (by decide))
theorem rfrom_rowlen {l : List Tile} {nn : Option (List Int)} {W : Nat} : ∀ r ∈ rfrom l nn W [] 255, r.length = W := fun r h => by
  have := rfrom_row W [] 255 r h
  simpa using this

set_option maxRecDepth 100000 in
/-- The loop over the lists of Souths of all rows. -/
theorem r20_4 {w0 w : World} {pv rv : Value} {proof R : List (List Int)} {W H : Nat} {K : Ending → World → Prop} (hp : RdRows w pv proof) (hR : RdRows w rv R) (hrl : ∀ r ∈ R, r.length = W) (hrow : ∀ p ∈ proof, p.length = W + 1) (hk : Kp w0 w)
    (hK : ∀ w' b, Kp w0 w' → (b = true ↔ ∀ s ∈ R, standsB proof s H = true) → K (.returned (.tuple #[.bool b, .int .i64 0])) w') : S20L4 (.int .i64 H) pv rv K w := by
  obtain ⟨ra, rc, rfl, _⟩ := hR.len
  unfold S20L4
  refine ⟨fun t wr => ∃ i : Nat, i ≤ R.length ∧ t = .int .i64 i ∧ (∀ s ∈ R.take i, standsB proof s H = true) ∧ Kp w wr, fun t _ => R.length - (intOf t).toNat, ⟨0, by omega, rfl, by simp, Kp.refl _⟩, ?_⟩
  rintro _ _ wr ⟨i, hi, rfl, hall, kr⟩
  by_cases hlt : i < R.length
  case neg =>
    have hlt' : ¬ (i : Int) < (R.length : Int) := by omega
    rw [List.take_of_length_le (by omega)] at hall
    simp (disch := omega) only [r_ln, r_pick, r_pickT, r_pickF, r_condT, r_condF, r_gdTT, r_gdFF, r_gdTF, r_gdFT, r_gqTT, r_gqFF, r_gqTF, r_gqFT, r_not, r_lss, r_leq, r_gtr, r_geq, r_eql, r_neq, r_add, r_sub, r_min2, r_max2, r_min3, r_max3, r_fa, r_iaS, r_iaA, r_ex2a, r_ex2b, r_ex3a, r_ex3b, r_ex3c, r_nc, r_keepE, Nat.zero_add, Nat.add_zero, Nat.mul_one, Int.toNat_natCast, toNat_sub1, toNat_add1, decide_true, decide_false, Bool.not_true, Bool.not_false, if_true, if_false, Bool.false_eq_true, reduceCtorEq, hlt']
    exact hK _ true (Kp.trans hk kr) ⟨fun _ => hall, fun _ => rfl⟩
  have hlt' : (i : Int) < (R.length : Int) := by omega
  obtain ⟨rb, ro, _, sv, er, hcell, hs⟩ := (hR.below kr).row hlt
  cases er
  have hii : (i : Int).toNat = i := by omega
  have hsl : (R.getD i []).length = W := hrl _ (getD_mem hlt)
  simp (disch := omega) only [r_ln, r_pick, r_pickT, r_pickF, r_condT, r_condF, r_gdTT, r_gdFF, r_gdTF, r_gdFT, r_gqTT, r_gqFF, r_gqTF, r_gqFT, r_not, r_lss, r_leq, r_gtr, r_geq, r_eql, r_neq, r_add, r_sub, r_min2, r_max2, r_min3, r_max3, r_fa, r_iaS, r_iaA, r_ex2a, r_ex2b, r_ex3a, r_ex3b, r_ex3c, r_nc, r_keepE, Nat.zero_add, Nat.add_zero, Nat.mul_one, Int.toNat_natCast, toNat_sub1, toNat_add1, decide_true, decide_false, Bool.not_true, Bool.not_false, if_true, if_false, Bool.false_eq_true, reduceCtorEq, decide_eq_true hlt', hii, r_ld hcell]
  refine r_use fok63 (stands_calls (k := H) wr (hp.below kr) hs (fun j hj => by rw [hsl]; exact hrow _ (getD_mem hj))) rfl ?_
  rintro _ w2 ⟨rfl, k2⟩
  refine ⟨_, rfl, ?_⟩
  have k02 := Kp.trans kr k2
  have hm : R.getD i [] ∈ R := getD_mem hlt
  cases hst : standsB proof (R.getD i []) H with
  | false =>
    simp (disch := omega) only [r_ln, r_pick, r_pickT, r_pickF, r_condT, r_condF, r_gdTT, r_gdFF, r_gdTF, r_gdFT, r_gqTT, r_gqFF, r_gqTF, r_gqFT, r_not, r_lss, r_leq, r_gtr, r_geq, r_eql, r_neq, r_add, r_sub, r_min2, r_max2, r_min3, r_max3, r_fa, r_iaS, r_iaA, r_ex2a, r_ex2b, r_ex3a, r_ex3b, r_ex3c, r_nc, r_keepE, Nat.zero_add, Nat.add_zero, Nat.mul_one, Int.toNat_natCast, toNat_sub1, toNat_add1, decide_true, decide_false, Bool.not_true, Bool.not_false, if_true, if_false, Bool.false_eq_true, reduceCtorEq]
    refine hK _ false (Kp.trans hk k02) ⟨fun h => absurd h Bool.false_ne_true, fun h => ?_⟩
    rw [h _ hm] at hst
    cases hst
  | true =>
    simp (disch := omega) only [r_ln, r_pick, r_pickT, r_pickF, r_condT, r_condF, r_gdTT, r_gdFF, r_gdTF, r_gdFT, r_gqTT, r_gqFF, r_gqTF, r_gqFT, r_not, r_lss, r_leq, r_gtr, r_geq, r_eql, r_neq, r_add, r_sub, r_min2, r_max2, r_min3, r_max3, r_fa, r_iaS, r_iaA, r_ex2a, r_ex2b, r_ex3a, r_ex3b, r_ex3c, r_nc, r_keepE, Nat.zero_add, Nat.add_zero, Nat.mul_one, Int.toNat_natCast, toNat_sub1, toNat_add1, decide_true, decide_false, Bool.not_true, Bool.not_false, if_true, if_false, Bool.false_eq_true, reduceCtorEq]
    refine ⟨⟨i + 1, by omega, by go_num, fun s hs' => ?_, k02⟩, by simp only [intOf]; omega⟩
    rw [take_succ' _ _ hlt, List.mem_append, ← getD_lt R i [] hlt] at hs'
    rcases hs' with h | h
    · exact hall s h
    · simp only [List.mem_singleton] at h
      rw [h]; exact hst

set_option maxRecDepth 100000 in
/-- The loop over the lists of Souths under an entry's colours. -/
theorem r20_3 {w0 w : World} {pv rv : Value} {proof R : List (List Int)} {W i : Nat} {next : Value → World → Prop} {K : Ending → World → Prop} (hp : RdRows w pv proof) (hi : i < proof.length) (hR : RdRows w rv R) (hrl : ∀ r ∈ R, r.length = W) (hrow : ∀ p ∈ proof, p.length = W + 1) (hk : Kp w0 w)
    (hno : ∀ w', Kp w0 w' → (∃ s ∈ R, standsB proof s ((proof.getD i []).getD 0 0) = false) → K (.returned (.tuple #[.bool false, .int .i64 0])) w')
    (hyes : ∀ w', Kp w0 w' → (∀ s ∈ R, standsB proof s ((proof.getD i []).getD 0 0) = true) → next (.int .i64 ((i : Int) + 1)) w') : S20L3 pv (.int .i64 i) rv next K w := by
  obtain ⟨ra, rc, rfl, _⟩ := hR.len
  obtain ⟨_, _, _, hpl⟩ := hp.len
  unfold S20L3
  refine ⟨fun t wr => ∃ j : Nat, j ≤ R.length ∧ t = .int .i64 j ∧ (∀ s ∈ R.take j, standsB proof s ((proof.getD i []).getD 0 0) = true) ∧ Kp w wr, fun t _ => R.length - (intOf t).toNat, ⟨0, by omega, rfl, by simp, Kp.refl _⟩, ?_⟩
  rintro _ _ wr ⟨j, hj, rfl, hall, kr⟩
  by_cases hlt : j < R.length
  case neg =>
    have hlt' : ¬ (j : Int) < (R.length : Int) := by omega
    rw [List.take_of_length_le (by omega)] at hall
    simp (disch := omega) only [r_ln, r_pick, r_pickT, r_pickF, r_condT, r_condF, r_gdTT, r_gdFF, r_gdTF, r_gdFT, r_gqTT, r_gqFF, r_gqTF, r_gqFT, r_not, r_lss, r_leq, r_gtr, r_geq, r_eql, r_neq, r_add, r_sub, r_min2, r_max2, r_min3, r_max3, r_fa, r_iaS, r_iaA, r_ex2a, r_ex2b, r_ex3a, r_ex3b, r_ex3c, r_nc, r_keepE, Nat.zero_add, Nat.add_zero, Nat.mul_one, Int.toNat_natCast, toNat_sub1, toNat_add1, decide_true, decide_false, Bool.not_true, Bool.not_false, if_true, if_false, Bool.false_eq_true, reduceCtorEq, hlt']
    exact hyes _ (Kp.trans hk kr) hall
  have hlt' : (j : Int) < (R.length : Int) := by omega
  simp (disch := omega) only [r_ln, r_pick, r_pickT, r_pickF, r_condT, r_condF, r_gdTT, r_gdFF, r_gdTF, r_gdFT, r_gqTT, r_gqFF, r_gqTF, r_gqFT, r_not, r_lss, r_leq, r_gtr, r_geq, r_eql, r_neq, r_add, r_sub, r_min2, r_max2, r_min3, r_max3, r_fa, r_iaS, r_iaA, r_ex2a, r_ex2b, r_ex3a, r_ex3b, r_ex3c, r_nc, r_keepE, Nat.zero_add, Nat.add_zero, Nat.mul_one, Int.toNat_natCast, toNat_sub1, toNat_add1, decide_true, decide_false, Bool.not_true, Bool.not_false, if_true, if_false, Bool.false_eq_true, reduceCtorEq, decide_eq_true hlt']
  refine r_drew fun wd kd _ => ?_
  have krd := Kp.trans kr kd
  obtain ⟨rb, ro, _, sv, er, hcell, hs⟩ := (hR.below krd).row hlt
  cases er
  obtain ⟨pb, po, _, qv, ep, pcell, hq⟩ := (hp.below krd).row hi
  subst ep
  have hpl3 : (proof.getD i []).length = W + 1 := hrow _ (getD_mem hi)
  obtain ⟨qb, qo, _, eq, qcell⟩ := hq.at (j := 0) (by omega)
  subst eq
  have hii : (i : Int).toNat = i := by omega
  have hjj : (j : Int).toNat = j := by omega
  have i0 : (0 : Int).toNat = 0 := rfl
  rw [Nat.add_zero] at qcell
  have hsl : (R.getD j []).length = W := hrl _ (getD_mem hlt)
  simp (disch := omega) only [r_ln, r_pick, r_pickT, r_pickF, r_condT, r_condF, r_gdTT, r_gdFF, r_gdTF, r_gdFT, r_gqTT, r_gqFF, r_gqTF, r_gqFT, r_not, r_lss, r_leq, r_gtr, r_geq, r_eql, r_neq, r_add, r_sub, r_min2, r_max2, r_min3, r_max3, r_fa, r_iaS, r_iaA, r_ex2a, r_ex2b, r_ex3a, r_ex3b, r_ex3c, r_nc, r_keepE, Nat.zero_add, Nat.add_zero, Nat.mul_one, Int.toNat_natCast, toNat_sub1, toNat_add1, decide_true, decide_false, Bool.not_true, Bool.not_false, if_true, if_false, Bool.false_eq_true, reduceCtorEq, hjj, r_ld hcell, hii, r_ld pcell, i0, Nat.zero_mul, r_ld qcell]
  refine r_use fok63 (stands_calls (k := (proof.getD i []).getD 0 0) wd (hp.below krd) hs (fun j hj => by rw [hsl]; exact hrow _ (getD_mem hj))) rfl ?_
  rintro _ w2 ⟨rfl, k2⟩
  refine ⟨_, rfl, ?_⟩
  have k02 := Kp.trans krd k2
  have hm : R.getD j [] ∈ R := getD_mem hlt
  cases hst : standsB proof (R.getD j []) ((proof.getD i []).getD 0 0) with
  | false =>
    simp (disch := omega) only [r_ln, r_pick, r_pickT, r_pickF, r_condT, r_condF, r_gdTT, r_gdFF, r_gdTF, r_gdFT, r_gqTT, r_gqFF, r_gqTF, r_gqFT, r_not, r_lss, r_leq, r_gtr, r_geq, r_eql, r_neq, r_add, r_sub, r_min2, r_max2, r_min3, r_max3, r_fa, r_iaS, r_iaA, r_ex2a, r_ex2b, r_ex3a, r_ex3b, r_ex3c, r_nc, r_keepE, Nat.zero_add, Nat.add_zero, Nat.mul_one, Int.toNat_natCast, toNat_sub1, toNat_add1, decide_true, decide_false, Bool.not_true, Bool.not_false, if_true, if_false, Bool.false_eq_true, reduceCtorEq]
    exact hno _ (Kp.trans hk k02) ⟨_, hm, hst⟩
  | true =>
    simp (disch := omega) only [r_ln, r_pick, r_pickT, r_pickF, r_condT, r_condF, r_gdTT, r_gdFF, r_gdTF, r_gdFT, r_gqTT, r_gqFF, r_gqTF, r_gqFT, r_not, r_lss, r_leq, r_gtr, r_geq, r_eql, r_neq, r_add, r_sub, r_min2, r_max2, r_min3, r_max3, r_fa, r_iaS, r_iaA, r_ex2a, r_ex2b, r_ex3a, r_ex3b, r_ex3c, r_nc, r_keepE, Nat.zero_add, Nat.add_zero, Nat.mul_one, Int.toNat_natCast, toNat_sub1, toNat_add1, decide_true, decide_false, Bool.not_true, Bool.not_false, if_true, if_false, Bool.false_eq_true, reduceCtorEq]
    refine ⟨⟨j + 1, by omega, by go_num, fun s hs' => ?_, k02⟩, by simp only [intOf]; omega⟩
    rw [take_succ' _ _ hlt, List.mem_append, ← getD_lt R j [] hlt] at hs'
    rcases hs' with h | h
    · exact hall s h
    · simp only [List.mem_singleton] at h
      rw [h]; exact hst

set_option maxRecDepth 100000 in
theorem r20_2 {w0 w : World} {v pv : Value} {l : List Tile} {proof : List (List Int)} {W H : Nat} {K : Ending → World → Prop} (hr : RdT w v l) (hs : setB l = true) (hW : 1 ≤ W ∧ W ≤ 4) (hp : RdRows w pv proof) (hrow : ∀ p ∈ proof, p.length = W + 1 ∧ (p.drop 1).all colB = true) (hk : Kp w0 w)
    (hK : ∀ w' b, Kp w0 w' → (b = true ↔ (∀ p ∈ proof, under l W proof p) ∧ ∀ s ∈ rfrom l none W [] 255, standsB proof s H = true) → K (.returned (.tuple #[.bool b, .int .i64 0])) w') : S20L2 v (.int .i64 W) (.int .i64 H) pv K w := by
  have hp' := hp
  obtain ⟨pa, pc, rfl, _⟩ := hp.len
  have hlen : ∀ p ∈ proof, p.length = W + 1 := fun p h => (hrow p h).1
  unfold S20L2
  refine ⟨fun t wr => ∃ i : Nat, i ≤ proof.length ∧ t = .int .i64 i ∧ (∀ p ∈ proof.take i, under l W proof p) ∧ Kp w wr, fun t _ => proof.length - (intOf t).toNat, ⟨0, by omega, rfl, by simp, Kp.refl _⟩, ?_⟩
  rintro _ _ wr ⟨i, hi, rfl, hall, kr⟩
  by_cases hlt : i < proof.length
  case neg =>
    have hlt' : ¬ (i : Int) < (proof.length : Int) := by omega
    rw [List.take_of_length_le (by omega)] at hall
    simp (disch := omega) only [r_ln, r_pick, r_pickT, r_pickF, r_condT, r_condF, r_gdTT, r_gdFF, r_gdTF, r_gdFT, r_gqTT, r_gqFF, r_gqTF, r_gqFT, r_not, r_lss, r_leq, r_gtr, r_geq, r_eql, r_neq, r_add, r_sub, r_min2, r_max2, r_min3, r_max3, r_fa, r_iaS, r_iaA, r_ex2a, r_ex2b, r_ex3a, r_ex3b, r_ex3c, r_nc, r_keepE, Nat.zero_add, Nat.add_zero, Nat.mul_one, Int.toNat_natCast, toNat_sub1, toNat_add1, decide_true, decide_false, Bool.not_true, Bool.not_false, if_true, if_false, Bool.false_eq_true, reduceCtorEq, hlt']
    refine r_use fok64 (firsts_calls (W := W) wr (hr.kp kr) (isSet_of hs) hW) rfl ?_
    rintro _ w2 ⟨v2, rfl, k2, o2⟩
    refine ⟨_, rfl, ?_⟩
    have hRl := rfrom_rowlen (l := l) (nn := none) (W := W)
    have hR : RdRows w2 v2 (rfrom l none W [] 255) := o2.rd (by have := rfrom_small (l := l) (nn := none) hW.2; omega) (fun r h => by rw [hRl r h]; omega)
    refine r20_4 (hp'.below (Kp.trans kr k2)) hR hRl hlen (Kp.trans hk (Kp.trans kr k2)) fun w' b kk hb => hK w' b kk ?_
    rw [hb]
    exact ⟨fun h => ⟨hall, h⟩, fun h => h.2⟩
  have hlt' : (i : Int) < (proof.length : Int) := by omega
  obtain ⟨pb, po, _, qv, ep, pcell, hq⟩ := (hp'.below kr).row hlt
  cases ep
  have hm : proof.getD i [] ∈ proof := getD_mem hlt
  have hpl := (hrow _ hm).1
  obtain ⟨qa, qc, rfl, _, _⟩ := hq.len
  have htail := rd_from (j := 1) hq (by omega)
  have hii : (i : Int).toNat = i := by omega
  have i1 : (1 : Int).toNat = 1 := rfl
  have hdl : ((proof.getD i []).drop 1).length = W := by rw [List.length_drop]; omega
  rw [Nat.mul_one] at htail
  simp (disch := omega) only [r_ln, r_pick, r_pickT, r_pickF, r_condT, r_condF, r_gdTT, r_gdFF, r_gdTF, r_gdFT, r_gqTT, r_gqFF, r_gqTF, r_gqFT, r_not, r_lss, r_leq, r_gtr, r_geq, r_eql, r_neq, r_add, r_sub, r_min2, r_max2, r_min3, r_max3, r_fa, r_iaS, r_iaA, r_ex2a, r_ex2b, r_ex3a, r_ex3b, r_ex3c, r_nc, r_keepE, Nat.zero_add, Nat.add_zero, Nat.mul_one, Int.toNat_natCast, toNat_sub1, toNat_add1, decide_true, decide_false, Bool.not_true, Bool.not_false, if_true, if_false, Bool.false_eq_true, reduceCtorEq, decide_eq_true hlt', hii, r_ld pcell, r_slFrom, i1]
  refine r_use fok48 (refrows_calls wr (hr.kp kr) htail) rfl ?_
  rintro _ w2 ⟨k2, hpost⟩
  have hok : rowsOk l ((proof.getD i []).drop 1) = true := by
    simp only [rowsOk, Bool.and_eq_true, hs, (hrow _ hm).2, sideB, decide_eq_true_eq]
    refine ⟨⟨trivial, by omega⟩, trivial⟩
  rcases hpost with ⟨h, _⟩ | ⟨_, v2, rfl, o2⟩
  · rw [hok] at h; cases h
  rw [hdl] at o2
  refine ⟨_, rfl, ?_⟩
  simp (disch := omega) only [r_ln, r_pick, r_pickT, r_pickF, r_condT, r_condF, r_gdTT, r_gdFF, r_gdTF, r_gdFT, r_gqTT, r_gqFF, r_gqTF, r_gqFT, r_not, r_lss, r_leq, r_gtr, r_geq, r_eql, r_neq, r_add, r_sub, r_min2, r_max2, r_min3, r_max3, r_fa, r_iaS, r_iaA, r_ex2a, r_ex2b, r_ex3a, r_ex3b, r_ex3c, r_nc, r_keepE, Nat.zero_add, Nat.add_zero, Nat.mul_one, Int.toNat_natCast, toNat_sub1, toNat_add1, decide_true, decide_false, Bool.not_true, Bool.not_false, if_true, if_false, Bool.false_eq_true, reduceCtorEq]
  have k02 := Kp.trans kr k2
  have hRl := rfrom_rowlen (l := l) (nn := some ((proof.getD i []).drop 1)) (W := W)
  have hR : RdRows w2 v2 (rfrom l (some ((proof.getD i []).drop 1)) W [] 255) := o2.rd (by have := rfrom_small (l := l) (nn := some ((proof.getD i []).drop 1)) hW.2; omega) (fun r h => by rw [hRl r h]; omega)
  refine r20_3 (w0 := w) (hp'.below k02) hlt hR hRl hlen k02 (fun w' kk ⟨s, hsm, hsf⟩ => ?_) (fun w' kk hyes => ?_)
  · refine hK w' false (Kp.trans hk kk) ⟨fun h => absurd h Bool.false_ne_true, fun h => ?_⟩
    have := h.1 _ hm s hsm
    rw [hsf] at this
    cases this
  · refine ⟨⟨i + 1, by omega, by go_num, fun p hp2 => ?_, kk⟩, by simp only [intOf]; omega⟩
    rw [take_succ' _ _ hlt, List.mem_append, ← getD_lt proof i [] hlt] at hp2
    rcases hp2 with h | h
    · exact hall p h
    · simp only [List.mem_singleton] at h
      rw [h]; exact hyes

set_option maxRecDepth 100000 in
theorem r20_1 {w0 w : World} {pv : Value} {proof : List (List Int)} {W i : Nat} {next : Value → World → Prop} {K : Ending → World → Prop} (hp : RdRows w pv proof) (hi : i < proof.length) (hlen : (proof.getD i []).length = W + 1) (hW : W ≤ 4) (hk : Kp w0 w)
    (hno : ∀ w', Kp w0 w' → ((proof.getD i []).drop 1).all colB = false → K (.returned (.tuple #[.bool false, .int .i64 0])) w')
    (hyes : ∀ w', Kp w0 w' → ((proof.getD i []).drop 1).all colB = true → next (.int .i64 ((i : Int) + 1)) w') : S20L1 (.int .i64 W) pv (.int .i64 i) next K w := by
  unfold S20L1
  obtain ⟨_, _, _, hpl⟩ := hp.len
  refine ⟨fun t wr => ∃ x : Nat, x ≤ W ∧ t = .int .i64 ((x : Int) + 1) ∧ (((proof.getD i []).drop 1).take x).all colB = true ∧ Kp w wr, fun t _ => W + 1 - (intOf t).toNat, ⟨0, by omega, rfl, rfl, Kp.refl _⟩, ?_⟩
  rintro _ _ wr ⟨x, hx, rfl, hall, kr⟩
  have hdl : ((proof.getD i []).drop 1).length = W := by rw [List.length_drop]; omega
  by_cases hlt : x < W
  case neg =>
    have hlt' : ¬ (x : Int) + 1 ≤ (W : Int) := by omega
    rw [List.take_of_length_le (by omega)] at hall
    simp (disch := omega) only [r_ln, r_pick, r_pickT, r_pickF, r_condT, r_condF, r_gdTT, r_gdFF, r_gdTF, r_gdFT, r_gqTT, r_gqFF, r_gqTF, r_gqFT, r_not, r_lss, r_leq, r_gtr, r_geq, r_eql, r_neq, r_add, r_sub, r_min2, r_max2, r_min3, r_max3, r_fa, r_iaS, r_iaA, r_ex2a, r_ex2b, r_ex3a, r_ex3b, r_ex3c, r_nc, r_keepE, Nat.zero_add, Nat.add_zero, Nat.mul_one, Int.toNat_natCast, toNat_sub1, toNat_add1, decide_true, decide_false, Bool.not_true, Bool.not_false, if_true, if_false, Bool.false_eq_true, reduceCtorEq, hlt']
    exact hyes _ (Kp.trans hk kr) hall
  have hlt' : (x : Int) + 1 ≤ (W : Int) := by omega
  obtain ⟨pb, po, _, qv, ep, pcell, hq⟩ := (hp.below kr).row hi
  subst ep
  obtain ⟨qb, qo, _, eq, qcell⟩ := hq.at (j := x + 1) (by omega)
  subst eq
  have hii : (i : Int).toNat = i := by omega
  have hxx : ((x : Int) + 1).toNat = x + 1 := by omega
  simp (disch := omega) only [r_ln, r_pick, r_pickT, r_pickF, r_condT, r_condF, r_gdTT, r_gdFF, r_gdTF, r_gdFT, r_gqTT, r_gqFF, r_gqTF, r_gqFT, r_not, r_lss, r_leq, r_gtr, r_geq, r_eql, r_neq, r_add, r_sub, r_min2, r_max2, r_min3, r_max3, r_fa, r_iaS, r_iaA, r_ex2a, r_ex2b, r_ex3a, r_ex3b, r_ex3c, r_nc, r_keepE, Nat.zero_add, Nat.add_zero, Nat.mul_one, Int.toNat_natCast, toNat_sub1, toNat_add1, decide_true, decide_false, Bool.not_true, Bool.not_false, if_true, if_false, Bool.false_eq_true, reduceCtorEq, decide_eq_true hlt', hii, r_ld pcell, hxx, r_ld qcell]
  refine r_use fok62 (refcolour_calls _ wr) rfl ?_
  rintro _ _ ⟨rfl, rfl⟩
  refine ⟨_, rfl, ?_⟩
  have hxd : x < ((proof.getD i []).drop 1).length := by omega
  have e1 : ((proof.getD i []).drop 1)[x] = (proof.getD i []).getD (x + 1) 0 := by
    rw [List.getElem_drop, getD_lt (proof.getD i []) (x + 1) 0 (by omega)]
    congr 1
    omega
  cases hcol : colB ((proof.getD i []).getD (x + 1) 0) with
  | false =>
    simp (disch := omega) only [r_ln, r_pick, r_pickT, r_pickF, r_condT, r_condF, r_gdTT, r_gdFF, r_gdTF, r_gdFT, r_gqTT, r_gqFF, r_gqTF, r_gqFT, r_not, r_lss, r_leq, r_gtr, r_geq, r_eql, r_neq, r_add, r_sub, r_min2, r_max2, r_min3, r_max3, r_fa, r_iaS, r_iaA, r_ex2a, r_ex2b, r_ex3a, r_ex3b, r_ex3c, r_nc, r_keepE, Nat.zero_add, Nat.add_zero, Nat.mul_one, Int.toNat_natCast, toNat_sub1, toNat_add1, decide_true, decide_false, Bool.not_true, Bool.not_false, if_true, if_false, Bool.false_eq_true, reduceCtorEq]
    refine hno _ (Kp.trans hk kr) ?_
    cases hh : ((proof.getD i []).drop 1).all colB with
    | false => rfl
    | true =>
      have := List.all_eq_true.1 hh _ (List.getElem_mem hxd)
      rw [e1, hcol] at this
      cases this
  | true =>
    simp (disch := omega) only [r_ln, r_pick, r_pickT, r_pickF, r_condT, r_condF, r_gdTT, r_gdFF, r_gdTF, r_gdFT, r_gqTT, r_gqFF, r_gqTF, r_gqFT, r_not, r_lss, r_leq, r_gtr, r_geq, r_eql, r_neq, r_add, r_sub, r_min2, r_max2, r_min3, r_max3, r_fa, r_iaS, r_iaA, r_ex2a, r_ex2b, r_ex3a, r_ex3b, r_ex3c, r_nc, r_keepE, Nat.zero_add, Nat.add_zero, Nat.mul_one, Int.toNat_natCast, toNat_sub1, toNat_add1, decide_true, decide_false, Bool.not_true, Bool.not_false, if_true, if_false, Bool.false_eq_true, reduceCtorEq]
    refine ⟨⟨x + 1, by omega, by go_num, ?_, kr⟩, by simp only [intOf]; omega⟩
    rw [take_succ' _ _ hxd, List.all_append, hall, e1, List.all_cons, List.all_nil, hcol]
    rfl

end Go.Proofs.Ytgalbokmgffhkaa
