/- Contracts: slices.Compare, slices.ContainsFunc at integers, the closures of Refutes. -/
import Derived.Test.YtgalbokmgffhkaaB1
import Derived.Test.YtgalbokmgffhkaaSc
set_option linter.all false
namespace Go.Proofs.Ytgalbokmgffhkaa
open Go.Lf Go.RowKit Go.Wg

def cmp1 (x y : Int) : Int := if x < y then -1 else if y < x then 1 else 0
def cmpL : List Int → List Int → Int
  | [], [] => 0
  | [], _ :: _ => -1
  | _ :: _, [] => 1
  | x :: a, y :: b => if x < y then -1 else if y < x then 1 else cmpL a b

theorem cmp_calls (x y : Int) (w : World) : Calls Try.prog 103 #[.int .i64 x, .int .i64 y] w fun e w' => e = .returned (.int .i64 (cmp1 x y)) ∧ w = w' := by
  refine lift103 ?_
  unfold S103
  have hn : ∀ x, Calls Try.prog 118 #[.int .i64 x] w fun e w' => e = .returned (.bool false) ∧ w = w' := fun x => by
    refine lift118 ?_
    unfold S118
    simp only [r_ln, r_pick, r_pickT, r_pickF, r_condT, r_condF, r_gdTT, r_gdFF, r_gdTF, r_gdFT, r_gqTT, r_gqFF, r_gqTF, r_gqFT, r_not, r_lss, r_leq, r_gtr, r_geq, r_eql, r_neq, r_add, r_sub, r_min2, r_max2, r_min3, r_max3, r_fa, r_iaS, r_iaA, r_ex2a, r_ex2b, r_ex3a, r_ex3b, r_ex3c, r_nc, r_keepE, Nat.zero_add, Nat.add_zero, Nat.mul_one, Int.toNat_natCast, toNat_sub1, toNat_add1, decide_true, decide_false, Bool.not_true, Bool.not_false, if_true, if_false, Bool.false_eq_true, reduceCtorEq, decide_eq_true (rfl : x = x)]
    exact ⟨by first | rfl | trivial, by first | rfl | trivial⟩
  refine r_use fok118 (hn x) rfl ?_
  rintro _ _ ⟨rfl, rfl⟩
  refine ⟨_, rfl, ?_⟩
  refine r_use fok118 (hn y) rfl ?_
  rintro _ _ ⟨rfl, rfl⟩
  refine ⟨_, rfl, ?_⟩
  unfold cmp1
  by_cases h1 : x < y
  · simp only [r_ln, r_pick, r_pickT, r_pickF, r_condT, r_condF, r_gdTT, r_gdFF, r_gdTF, r_gdFT, r_gqTT, r_gqFF, r_gqTF, r_gqFT, r_not, r_lss, r_leq, r_gtr, r_geq, r_eql, r_neq, r_add, r_sub, r_min2, r_max2, r_min3, r_max3, r_fa, r_iaS, r_iaA, r_ex2a, r_ex2b, r_ex3a, r_ex3b, r_ex3c, r_nc, r_keepE, Nat.zero_add, Nat.add_zero, Nat.mul_one, Int.toNat_natCast, toNat_sub1, toNat_add1, decide_true, decide_false, Bool.not_true, Bool.not_false, if_true, if_false, Bool.false_eq_true, reduceCtorEq, h1]
    exact ⟨by first | rfl | trivial, by first | rfl | trivial⟩
  by_cases h2 : y < x
  · simp only [r_ln, r_pick, r_pickT, r_pickF, r_condT, r_condF, r_gdTT, r_gdFF, r_gdTF, r_gdFT, r_gqTT, r_gqFF, r_gqTF, r_gqFT, r_not, r_lss, r_leq, r_gtr, r_geq, r_eql, r_neq, r_add, r_sub, r_min2, r_max2, r_min3, r_max3, r_fa, r_iaS, r_iaA, r_ex2a, r_ex2b, r_ex3a, r_ex3b, r_ex3c, r_nc, r_keepE, Nat.zero_add, Nat.add_zero, Nat.mul_one, Int.toNat_natCast, toNat_sub1, toNat_add1, decide_true, decide_false, Bool.not_true, Bool.not_false, if_true, if_false, Bool.false_eq_true, reduceCtorEq, h1, h2]
    exact ⟨by first | rfl | trivial, by first | rfl | trivial⟩
  · simp only [r_ln, r_pick, r_pickT, r_pickF, r_condT, r_condF, r_gdTT, r_gdFF, r_gdTF, r_gdFT, r_gqTT, r_gqFF, r_gqTF, r_gqFT, r_not, r_lss, r_leq, r_gtr, r_geq, r_eql, r_neq, r_add, r_sub, r_min2, r_max2, r_min3, r_max3, r_fa, r_iaS, r_iaA, r_ex2a, r_ex2b, r_ex3a, r_ex3b, r_ex3c, r_nc, r_keepE, Nat.zero_add, Nat.add_zero, Nat.mul_one, Int.toNat_natCast, toNat_sub1, toNat_add1, decide_true, decide_false, Bool.not_true, Bool.not_false, if_true, if_false, Bool.false_eq_true, reduceCtorEq, h1, h2]
    exact ⟨by first | rfl | trivial, by first | rfl | trivial⟩

theorem cmpL_step {a b : List Int} {i : Nat} (ha : i < a.length) (hb : i < b.length) : cmpL (a.drop i) (b.drop i) = if cmp1 (a.getD i 0) (b.getD i 0) = 0 then cmpL (a.drop (i + 1)) (b.drop (i + 1)) else cmp1 (a.getD i 0) (b.getD i 0) := by
  rw [List.drop_eq_getElem_cons ha, List.drop_eq_getElem_cons hb, getD_lt _ _ _ ha, getD_lt _ _ _ hb]
  simp only [cmpL, cmp1]
  split
  · simp
  · split
    · simp
    · simp

set_option maxRecDepth 100000 in
theorem compare_calls {va vb : Value} {a b : List Int} (w : World) (ha : RdInts w va a) (hb : RdInts w vb b) : Calls Try.prog 57 #[va, vb] w fun e w' => e = .returned (.int .i64 (cmpL a b)) ∧ w = w' := by
  obtain ⟨aa, ac, rfl, hal⟩ := ha.len
  obtain ⟨ba, bc, rfl, hbl⟩ := hb.len
  refine lift57 ?_
  unfold S57
  simp only [r_ln, r_pick, r_pickT, r_pickF, r_condT, r_condF, r_gdTT, r_gdFF, r_gdTF, r_gdFT, r_gqTT, r_gqFF, r_gqTF, r_gqFT, r_not, r_lss, r_leq, r_gtr, r_geq, r_eql, r_neq, r_add, r_sub, r_min2, r_max2, r_min3, r_max3, r_fa, r_iaS, r_iaA, r_ex2a, r_ex2b, r_ex3a, r_ex3b, r_ex3c, r_nc, r_keepE, Nat.zero_add, Nat.add_zero, Nat.mul_one, Int.toNat_natCast, toNat_sub1, toNat_add1, decide_true, decide_false, Bool.not_true, Bool.not_false, if_true, if_false, Bool.false_eq_true, reduceCtorEq]
  refine ⟨fun t11 wr => ∃ i : Nat, i ≤ a.length ∧ i ≤ b.length ∧ t11 = .int .i64 i ∧ cmpL a b = cmpL (a.drop i) (b.drop i) ∧ w = wr, fun t11 _ => a.length - (intOf t11).toNat, ⟨0, by omega, by omega, rfl, by simp, rfl⟩, ?_⟩
  rintro _ _ _ ⟨i, hi, hib, rfl, hc, rfl⟩
  by_cases hlt : i < a.length
  case neg =>
    have hlt' : ¬ (i : Int) < (a.length : Int) := by omega
    rw [List.drop_eq_nil_of_le (show a.length ≤ i by omega)] at hc
    by_cases hl : a.length < b.length
    · have hl' : (a.length : Int) < (b.length : Int) := by omega
      have : ∃ y ys, b.drop i = y :: ys := ⟨b[i]'(by omega), b.drop (i + 1), List.drop_eq_getElem_cons (by omega)⟩
      obtain ⟨y, ys, e⟩ := this
      rw [e] at hc
      simp (disch := omega) only [r_ln, r_pick, r_pickT, r_pickF, r_condT, r_condF, r_gdTT, r_gdFF, r_gdTF, r_gdFT, r_gqTT, r_gqFF, r_gqTF, r_gqFT, r_not, r_lss, r_leq, r_gtr, r_geq, r_eql, r_neq, r_add, r_sub, r_min2, r_max2, r_min3, r_max3, r_fa, r_iaS, r_iaA, r_ex2a, r_ex2b, r_ex3a, r_ex3b, r_ex3c, r_nc, r_keepE, Nat.zero_add, Nat.add_zero, Nat.mul_one, Int.toNat_natCast, toNat_sub1, toNat_add1, decide_true, decide_false, Bool.not_true, Bool.not_false, if_true, if_false, Bool.false_eq_true, reduceCtorEq, hlt', hl']
      exact ⟨by rw [hc]; rfl, by first | rfl | trivial⟩
    · have hl' : ¬ (a.length : Int) < (b.length : Int) := by omega
      rw [List.drop_eq_nil_of_le (show b.length ≤ i by omega)] at hc
      simp (disch := omega) only [r_ln, r_pick, r_pickT, r_pickF, r_condT, r_condF, r_gdTT, r_gdFF, r_gdTF, r_gdFT, r_gqTT, r_gqFF, r_gqTF, r_gqFT, r_not, r_lss, r_leq, r_gtr, r_geq, r_eql, r_neq, r_add, r_sub, r_min2, r_max2, r_min3, r_max3, r_fa, r_iaS, r_iaA, r_ex2a, r_ex2b, r_ex3a, r_ex3b, r_ex3c, r_nc, r_keepE, Nat.zero_add, Nat.add_zero, Nat.mul_one, Int.toNat_natCast, toNat_sub1, toNat_add1, decide_true, decide_false, Bool.not_true, Bool.not_false, if_true, if_false, Bool.false_eq_true, reduceCtorEq, hlt', hl']
      exact ⟨by rw [hc]; rfl, by first | rfl | trivial⟩
  have hlt' : (i : Int) < (a.length : Int) := by omega
  obtain ⟨ab, ao, _, ea, ac'⟩ := ha.at hlt
  cases ea
  by_cases hbi : i < b.length
  case neg =>
    have hbi' : (b.length : Int) ≤ (i : Int) := by omega
    have e1 : a.drop i = a[i] :: a.drop (i + 1) := List.drop_eq_getElem_cons hlt
    rw [List.drop_eq_nil_of_le (show b.length ≤ i by omega), e1] at hc
    simp (disch := omega) only [r_ln, r_pick, r_pickT, r_pickF, r_condT, r_condF, r_gdTT, r_gdFF, r_gdTF, r_gdFT, r_gqTT, r_gqFF, r_gqTF, r_gqFT, r_not, r_lss, r_leq, r_gtr, r_geq, r_eql, r_neq, r_add, r_sub, r_min2, r_max2, r_min3, r_max3, r_fa, r_iaS, r_iaA, r_ex2a, r_ex2b, r_ex3a, r_ex3b, r_ex3c, r_nc, r_keepE, Nat.zero_add, Nat.add_zero, Nat.mul_one, Int.toNat_natCast, toNat_sub1, toNat_add1, decide_true, decide_false, Bool.not_true, Bool.not_false, if_true, if_false, Bool.false_eq_true, reduceCtorEq, decide_eq_true hlt', r_ld ac', decide_eq_true hbi']
    exact ⟨by rw [hc]; rfl, by first | rfl | trivial⟩
  have hbi' : ¬ (b.length : Int) ≤ (i : Int) := by omega
  obtain ⟨bb, bo, _, eb, bc'⟩ := hb.at hbi
  cases eb
  rw [cmpL_step hlt hbi] at hc
  simp (disch := omega) only [r_ln, r_pick, r_pickT, r_pickF, r_condT, r_condF, r_gdTT, r_gdFF, r_gdTF, r_gdFT, r_gqTT, r_gqFF, r_gqTF, r_gqFT, r_not, r_lss, r_leq, r_gtr, r_geq, r_eql, r_neq, r_add, r_sub, r_min2, r_max2, r_min3, r_max3, r_fa, r_iaS, r_iaA, r_ex2a, r_ex2b, r_ex3a, r_ex3b, r_ex3c, r_nc, r_keepE, Nat.zero_add, Nat.add_zero, Nat.mul_one, Int.toNat_natCast, toNat_sub1, toNat_add1, decide_true, decide_false, Bool.not_true, Bool.not_false, if_true, if_false, Bool.false_eq_true, reduceCtorEq, decide_eq_true hlt', r_ld ac', hbi', r_ld bc']
  refine r_use fok103 (cmp_calls _ _ w) rfl ?_
  rintro _ _ ⟨rfl, rfl⟩
  refine ⟨_, rfl, ?_⟩
  by_cases hz : cmp1 (a.getD i 0) (b.getD i 0) = 0
  · rw [if_pos hz] at hc
    simp (disch := omega) only [r_ln, r_pick, r_pickT, r_pickF, r_condT, r_condF, r_gdTT, r_gdFF, r_gdTF, r_gdFT, r_gqTT, r_gqFF, r_gqTF, r_gqFT, r_not, r_lss, r_leq, r_gtr, r_geq, r_eql, r_neq, r_add, r_sub, r_min2, r_max2, r_min3, r_max3, r_fa, r_iaS, r_iaA, r_ex2a, r_ex2b, r_ex3a, r_ex3b, r_ex3c, r_nc, r_keepE, Nat.zero_add, Nat.add_zero, Nat.mul_one, Int.toNat_natCast, toNat_sub1, toNat_add1, decide_true, decide_false, Bool.not_true, Bool.not_false, if_true, if_false, Bool.false_eq_true, reduceCtorEq, decide_eq_true hz]
    exact ⟨⟨i + 1, by omega, by omega, by go_num, hc, by first | rfl | trivial⟩, by simp only [intOf]; omega⟩
  · rw [if_neg hz] at hc
    simp (disch := omega) only [r_ln, r_pick, r_pickT, r_pickF, r_condT, r_condF, r_gdTT, r_gdFF, r_gdTF, r_gdFT, r_gqTT, r_gqFF, r_gqTF, r_gqFT, r_not, r_lss, r_leq, r_gtr, r_geq, r_eql, r_neq, r_add, r_sub, r_min2, r_max2, r_min3, r_max3, r_fa, r_iaS, r_iaA, r_ex2a, r_ex2b, r_ex3a, r_ex3b, r_ex3c, r_nc, r_keepE, Nat.zero_add, Nat.add_zero, Nat.mul_one, Int.toNat_natCast, toNat_sub1, toNat_add1, decide_true, decide_false, Bool.not_true, Bool.not_false, if_true, if_false, Bool.false_eq_true, reduceCtorEq, decide_eq_false hz]
    exact ⟨by rw [hc], by first | rfl | trivial⟩

set_option maxRecDepth 100000 in
/-- slices.ContainsFunc, IndexFunc at integers, for a test that keeps what is there. -/
theorem indexF_calls {v fv : Value} {l : List Int} (p : Int → Bool) (w : World) (hr : RdInts w v l)
    (hc : ∀ x ∈ l, ∀ (w' : World) (K : Value → World → Prop), Kp w w' → (∀ w'', Kp w' w'' → K (.bool (p x)) w'') → callW Try.prog fv [.int .i64 x] w' K) :
    Calls Try.prog 102 #[v, fv] w fun e w' => ∃ n : Int, e = .returned (.int .i64 n) ∧ decide (0 ≤ n) = l.any p ∧ Kp w w' := by
  obtain ⟨a, cap, rfl, hl⟩ := hr.len
  refine lift102 ?_
  unfold S102
  simp only [r_ln, r_pick, r_pickT, r_pickF, r_condT, r_condF, r_gdTT, r_gdFF, r_gdTF, r_gdFT, r_gqTT, r_gqFF, r_gqTF, r_gqFT, r_not, r_lss, r_leq, r_gtr, r_geq, r_eql, r_neq, r_add, r_sub, r_min2, r_max2, r_min3, r_max3, r_fa, r_iaS, r_iaA, r_ex2a, r_ex2b, r_ex3a, r_ex3b, r_ex3c, r_nc, r_keepE, Nat.zero_add, Nat.add_zero, Nat.mul_one, Int.toNat_natCast, toNat_sub1, toNat_add1, decide_true, decide_false, Bool.not_true, Bool.not_false, if_true, if_false, Bool.false_eq_true, reduceCtorEq]
  refine ⟨fun t8 wr => ∃ i : Nat, i ≤ l.length ∧ t8 = .int .i64 i ∧ (l.take i).any p = false ∧ Kp w wr, fun t8 _ => l.length - (intOf t8).toNat, ⟨0, by omega, rfl, by simp, Kp.refl _⟩, ?_⟩
  rintro _ _ wr ⟨i, hi, rfl, hn, hk⟩
  by_cases hlt : i < l.length
  case neg =>
    have hlt' : ¬ (i : Int) < (l.length : Int) := by omega
    rw [List.take_of_length_le (by omega)] at hn
    simp (disch := omega) only [r_ln, r_pick, r_pickT, r_pickF, r_condT, r_condF, r_gdTT, r_gdFF, r_gdTF, r_gdFT, r_gqTT, r_gqFF, r_gqTF, r_gqFT, r_not, r_lss, r_leq, r_gtr, r_geq, r_eql, r_neq, r_add, r_sub, r_min2, r_max2, r_min3, r_max3, r_fa, r_iaS, r_iaA, r_ex2a, r_ex2b, r_ex3a, r_ex3b, r_ex3c, r_nc, r_keepE, Nat.zero_add, Nat.add_zero, Nat.mul_one, Int.toNat_natCast, toNat_sub1, toNat_add1, decide_true, decide_false, Bool.not_true, Bool.not_false, if_true, if_false, Bool.false_eq_true, reduceCtorEq, hlt']
    exact ⟨-1, rfl, by rw [hn]; decide, hk⟩
  have hlt' : (i : Int) < (l.length : Int) := by omega
  obtain ⟨b, off, _, e, hcell⟩ := (hr.below hk).at hlt
  cases e
  simp (disch := omega) only [r_ln, r_pick, r_pickT, r_pickF, r_condT, r_condF, r_gdTT, r_gdFF, r_gdTF, r_gdFT, r_gqTT, r_gqFF, r_gqTF, r_gqFT, r_not, r_lss, r_leq, r_gtr, r_geq, r_eql, r_neq, r_add, r_sub, r_min2, r_max2, r_min3, r_max3, r_fa, r_iaS, r_iaA, r_ex2a, r_ex2b, r_ex3a, r_ex3b, r_ex3c, r_nc, r_keepE, Nat.zero_add, Nat.add_zero, Nat.mul_one, Int.toNat_natCast, toNat_sub1, toNat_add1, decide_true, decide_false, Bool.not_true, Bool.not_false, if_true, if_false, Bool.false_eq_true, reduceCtorEq, decide_eq_true hlt', r_ld hcell]
  refine hc _ (getD_mem hlt) wr _ hk fun w2 k2 => ?_
  have htk : l.take (i + 1) = l.take i ++ [l.getD i 0] := by rw [take_succ' _ _ hlt, getD_lt _ _ _ hlt]
  cases hp : p (l.getD i 0) with
  | true =>
    simp (disch := omega) only [r_ln, r_pick, r_pickT, r_pickF, r_condT, r_condF, r_gdTT, r_gdFF, r_gdTF, r_gdFT, r_gqTT, r_gqFF, r_gqTF, r_gqFT, r_not, r_lss, r_leq, r_gtr, r_geq, r_eql, r_neq, r_add, r_sub, r_min2, r_max2, r_min3, r_max3, r_fa, r_iaS, r_iaA, r_ex2a, r_ex2b, r_ex3a, r_ex3b, r_ex3c, r_nc, r_keepE, Nat.zero_add, Nat.add_zero, Nat.mul_one, Int.toNat_natCast, toNat_sub1, toNat_add1, decide_true, decide_false, Bool.not_true, Bool.not_false, if_true, if_false, Bool.false_eq_true, reduceCtorEq]
    refine ⟨i, rfl, ?_, Kp.trans hk k2⟩
    have : l.any p = true := List.any_eq_true.2 ⟨_, getD_mem hlt, hp⟩
    rw [this]
    exact decide_eq_true (by omega)
  | false =>
    simp (disch := omega) only [r_ln, r_pick, r_pickT, r_pickF, r_condT, r_condF, r_gdTT, r_gdFF, r_gdTF, r_gdFT, r_gqTT, r_gqFF, r_gqTF, r_gqFT, r_not, r_lss, r_leq, r_gtr, r_geq, r_eql, r_neq, r_add, r_sub, r_min2, r_max2, r_min3, r_max3, r_fa, r_iaS, r_iaA, r_ex2a, r_ex2b, r_ex3a, r_ex3b, r_ex3c, r_nc, r_keepE, Nat.zero_add, Nat.add_zero, Nat.mul_one, Int.toNat_natCast, toNat_sub1, toNat_add1, decide_true, decide_false, Bool.not_true, Bool.not_false, if_true, if_false, Bool.false_eq_true, reduceCtorEq]
    exact ⟨⟨i + 1, by omega, by go_num, by rw [htk, List.any_append, hn, List.any_cons, List.any_nil, hp]; rfl, Kp.trans hk k2⟩, by simp only [intOf]; omega⟩

theorem containsF_calls {v fv : Value} {l : List Int} (p : Int → Bool) (w : World) (hr : RdInts w v l)
    (hc : ∀ x ∈ l, ∀ (w' : World) (K : Value → World → Prop), Kp w w' → (∀ w'', Kp w' w'' → K (.bool (p x)) w'') → callW Try.prog fv [.int .i64 x] w' K) :
    Calls Try.prog 54 #[v, fv] w fun e w' => e = .returned (.bool (l.any p)) ∧ Kp w w' := by
  refine lift54 ?_
  unfold S54
  refine r_use fok102 (indexF_calls p w hr hc) rfl ?_
  rintro _ w1 ⟨n, rfl, hn, k1⟩
  refine ⟨_, rfl, ?_⟩
  simp only [r_ln, r_pick, r_pickT, r_pickF, r_condT, r_condF, r_gdTT, r_gdFF, r_gdTF, r_gdFT, r_gqTT, r_gqFF, r_gqTF, r_gqFT, r_not, r_lss, r_leq, r_gtr, r_geq, r_eql, r_neq, r_add, r_sub, r_min2, r_max2, r_min3, r_max3, r_fa, r_iaS, r_iaA, r_ex2a, r_ex2b, r_ex3a, r_ex3b, r_ex3c, r_nc, r_keepE, Nat.zero_add, Nat.add_zero, Nat.mul_one, Int.toNat_natCast, toNat_sub1, toNat_add1, decide_true, decide_false, Bool.not_true, Bool.not_false, if_true, if_false, Bool.false_eq_true, reduceCtorEq, hn]
  exact ⟨by first | rfl | trivial, k1⟩

/-- The test of Refutes: no colour. -/
theorem nocol_call (x : Int) (w : World) (K : Value → World → Prop) (h : ∀ w', Kp w w' → K (.bool (!colB x)) w') : callW Try.prog (.func (.func 55) #[] #[]) [.int .i64 x] w K := by
  have hc : Calls Try.prog 55 #[.int .i64 x] w fun e w' => e = .returned (.bool (!colB x)) ∧ w = w' := by
    refine lift55 ?_
    unfold S55
    refine r_use fok56 (colour_calls x w) rfl ?_
    rintro _ _ ⟨rfl, rfl⟩
    refine ⟨_, rfl, ?_⟩
    simp only [r_ln, r_pick, r_pickT, r_pickF, r_condT, r_condF, r_gdTT, r_gdFF, r_gdTF, r_gdFT, r_gqTT, r_gqFF, r_gqTF, r_gqFT, r_not, r_lss, r_leq, r_gtr, r_geq, r_eql, r_neq, r_add, r_sub, r_min2, r_max2, r_min3, r_max3, r_fa, r_iaS, r_iaA, r_ex2a, r_ex2b, r_ex3a, r_ex3b, r_ex3c, r_nc, r_keepE, Nat.zero_add, Nat.add_zero, Nat.mul_one, Int.toNat_natCast, toNat_sub1, toNat_add1, decide_true, decide_false, Bool.not_true, Bool.not_false, if_true, if_false, Bool.false_eq_true, reduceCtorEq]
    exact ⟨by first | rfl | trivial, by first | rfl | trivial⟩
  refine r_use fok55 hc rfl ?_
  rintro _ _ ⟨rfl, rfl⟩
  exact ⟨_, rfl, h w (Kp.refl _)⟩

theorem rd_from {w : World} {a : Option Addr} {n c j : Nat} {l : List Int} (h : RdInts w (.slice a n c) l) (hj : j ≤ l.length) : RdInts w (.slice (if c = j then a else a.map fun x => x.add (j * 1)) (n - j) (c - j)) (l.drop j) := by
  obtain ⟨a', cap, e, hl, hh⟩ := h
  cases e
  have hd : (l.drop j).length = l.length - j := List.length_drop
  refine ⟨_, c - j, by rw [hd], by omega, fun h0 => ?_⟩
  obtain ⟨b, off, rfl, hcell⟩ := hh (by omega)
  refine ⟨b, off + j, ?_, fun i hi => ?_⟩
  · rw [if_neg (by omega)]
    simp [r_addr]
  · have := hcell (j + i) (by omega)
    rw [Nat.add_assoc, this]
    simp [List.getD_eq_getElem?_getD, List.getElem?_drop]

end Go.Proofs.Ytgalbokmgffhkaa
