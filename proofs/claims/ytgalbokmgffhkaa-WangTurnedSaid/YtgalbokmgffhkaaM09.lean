/- Texts of my own, merged by program: B2 B3 Sf. -/
import Derived.Test.YtgalbokmgffhkaaM08
import Derived.Test.YtgalbokmgffhkaaM03
set_option linter.all false
/- Contracts: slices.Compare, slices.ContainsFunc at integers, the closures of Refutes. -/
namespace Go.Proofs.Ytgalbokmgffhkaa
open Go.Lf Go.RowKit Go.Wg

def cmp1 (x y : Int) : Int := if x < y then -1 else if y < x then 1 else 0
def cmpL : List Int → List Int → Int
  | [], [] => 0
  | [], _ :: _ => -1
  | _ :: _, [] => 1
  | x :: a, y :: b => if x < y then -1 else if y < x then 1 else cmpL a b

theorem cmp_calls (x y : Int) (w : World) : Calls Try.prog 103 #[.int .i64 x, .int .i64 y] w fun e w' => e = .returned (.int .i64 (cmp1 x y)) ∧ w = w' := by
  refine lift103 ?_
  unfold S103
  have hn : ∀ x, Calls Try.prog 118 #[.int .i64 x] w fun e w' => e = .returned (.bool false) ∧ w = w' := fun x => by
    refine lift118 ?_
    unfold S118
    simp only [r_ln, r_pick, r_pickT, r_pickF, r_condT, r_condF, r_gdTT, r_gdFF, r_gdTF, r_gdFT, r_gqTT, r_gqFF, r_gqTF, r_gqFT, r_not, r_lss, r_leq, r_gtr, r_geq, r_eql, r_neq, r_add, r_sub, r_min2, r_max2, r_min3, r_max3, r_fa, r_iaS, r_iaA, r_ex2a, r_ex2b, r_ex3a, r_ex3b, r_ex3c, r_nc, r_keepE, Nat.zero_add, Nat.add_zero, Nat.mul_one, Int.toNat_natCast, toNat_sub1, toNat_add1, decide_true, decide_false, Bool.not_true, Bool.not_false, if_true, if_false, Bool.false_eq_true, reduceCtorEq, decide_eq_true (rfl : x = x)]
    exact ⟨by first | rfl | trivial, by first | rfl | trivial⟩
  refine r_use fok118 (hn x) rfl ?_
  rintro _ _ ⟨rfl, rfl⟩
  refine ⟨_, rfl, ?_⟩
  refine r_use fok118 (hn y) rfl ?_
  rintro _ _ ⟨rfl, rfl⟩
  refine ⟨_, rfl, ?_⟩
  unfold cmp1
  by_cases h1 : x < y
  · simp only [r_ln, r_pick, r_pickT, r_pickF, r_condT, r_condF, r_gdTT, r_gdFF, r_gdTF, r_gdFT, r_gqTT, r_gqFF, r_gqTF, r_gqFT, r_not, r_lss, r_leq, r_gtr, r_geq, r_eql, r_neq, r_add, r_sub, r_min2, r_max2, r_min3, r_max3, r_fa, r_iaS, r_iaA, r_ex2a, r_ex2b, r_ex3a, r_ex3b, r_ex3c, r_nc, r_keepE, Nat.zero_add, Nat.add_zero, Nat.mul_one, Int.toNat_natCast, toNat_sub1, toNat_add1, decide_true, decide_false, Bool.not_true, Bool.not_false, if_true, if_false, Bool.false_eq_true, reduceCtorEq, h1]
    exact ⟨by first | rfl | trivial, by first | rfl | trivial⟩
  by_cases h2 : y < x
  · simp only [r_ln, r_pick, r_pickT, r_pickF, r_condT, r_condF, r_gdTT, r_gdFF, r_gdTF, r_gdFT, r_gqTT, r_gqFF, r_gqTF, r_gqFT, r_not, r_lss, r_leq, r_gtr, r_geq, r_eql, r_neq, r_add, r_sub, r_min2, r_max2, r_min3, r_max3, r_fa, r_iaS, r_iaA, r_ex2a, r_ex2b, r_ex3a, r_ex3b, r_ex3c, r_nc, r_keepE, Nat.zero_add, Nat.add_zero, Nat.mul_one, Int.toNat_natCast, toNat_sub1, toNat_add1, decide_true, decide_false, Bool.not_true, Bool.not_false, if_true, if_false, Bool.false_eq_true, reduceCtorEq, h1, h2]
    exact ⟨by first | rfl | trivial, by first | rfl | trivial⟩
  · simp only [r_ln, r_pick, r_pickT, r_pickF, r_condT, r_condF, r_gdTT, r_gdFF, r_gdTF, r_gdFT, r_gqTT, r_gqFF, r_gqTF, r_gqFT, r_not, r_lss, r_leq, r_gtr, r_geq, r_eql, r_neq, r_add, r_sub, r_min2, r_max2, r_min3, r_max3, r_fa, r_iaS, r_iaA, r_ex2a, r_ex2b, r_ex3a, r_ex3b, r_ex3c, r_nc, r_keepE, Nat.zero_add, Nat.add_zero, Nat.mul_one, Int.toNat_natCast, toNat_sub1, toNat_add1, decide_true, decide_false, Bool.not_true, Bool.not_false, if_true, if_false, Bool.false_eq_true, reduceCtorEq, h1, h2]
    exact ⟨by first | rfl | trivial, by first | rfl | trivial⟩

theorem cmpL_step {a b : List Int} {i : Nat} (ha : i < a.length) (hb : i < b.length) : cmpL (a.drop i) (b.drop i) = if cmp1 (a.getD i 0) (b.getD i 0) = 0 then cmpL (a.drop (i + 1)) (b.drop (i + 1)) else cmp1 (a.getD i 0) (b.getD i 0) := by
  rw [List.drop_eq_getElem_cons ha, List.drop_eq_getElem_cons hb, getD_lt _ _ _ ha, getD_lt _ _ _ hb]
  simp only [cmpL, cmp1]
  split
  · simp
  · split
    · simp
    · simp

set_option maxRecDepth 100000 in
theorem compare_calls {va vb : Value} {a b : List Int} (w : World) (ha : RdInts w va a) (hb : RdInts w vb b) : Calls Try.prog 57 #[va, vb] w fun e w' => e = .returned (.int .i64 (cmpL a b)) ∧ w = w' := by
  obtain ⟨aa, ac, rfl, hal⟩ := ha.len
  obtain ⟨ba, bc, rfl, hbl⟩ := hb.len
  refine lift57 ?_
  unfold S57
  simp only [r_ln, r_pick, r_pickT, r_pickF, r_condT, r_condF, r_gdTT, r_gdFF, r_gdTF, r_gdFT, r_gqTT, r_gqFF, r_gqTF, r_gqFT, r_not, r_lss, r_leq, r_gtr, r_geq, r_eql, r_neq, r_add, r_sub, r_min2, r_max2, r_min3, r_max3, r_fa, r_iaS, r_iaA, r_ex2a, r_ex2b, r_ex3a, r_ex3b, r_ex3c, r_nc, r_keepE, Nat.zero_add, Nat.add_zero, Nat.mul_one, Int.toNat_natCast, toNat_sub1, toNat_add1, decide_true, decide_false, Bool.not_true, Bool.not_false, if_true, if_false, Bool.false_eq_true, reduceCtorEq]
  refine ⟨fun t11 wr => ∃ i : Nat, i ≤ a.length ∧ i ≤ b.length ∧ t11 = .int .i64 i ∧ cmpL a b = cmpL (a.drop i) (b.drop i) ∧ w = wr, fun t11 _ => a.length - (intOf t11).toNat, ⟨0, by omega, by omega, rfl, by simp, rfl⟩, ?_⟩
  rintro _ _ _ ⟨i, hi, hib, rfl, hc, rfl⟩
  by_cases hlt : i < a.length
  case neg =>
    have hlt' : ¬ (i : Int) < (a.length : Int) := by omega
    rw [List.drop_eq_nil_of_le (show a.length ≤ i by omega)] at hc
    by_cases hl : a.length < b.length
    · have hl' : (a.length : Int) < (b.length : Int) := by omega
      have : ∃ y ys, b.drop i = y :: ys := ⟨b[i]'(by omega), b.drop (i + 1), List.drop_eq_getElem_cons (by omega)⟩
      obtain ⟨y, ys, e⟩ := this
      rw [e] at hc
      simp (disch := omega) only [r_ln, r_pick, r_pickT, r_pickF, r_condT, r_condF, r_gdTT, r_gdFF, r_gdTF, r_gdFT, r_gqTT, r_gqFF, r_gqTF, r_gqFT, r_not, r_lss, r_leq, r_gtr, r_geq, r_eql, r_neq, r_add, r_sub, r_min2, r_max2, r_min3, r_max3, r_fa, r_iaS, r_iaA, r_ex2a, r_ex2b, r_ex3a, r_ex3b, r_ex3c, r_nc, r_keepE, Nat.zero_add, Nat.add_zero, Nat.mul_one, Int.toNat_natCast, toNat_sub1, toNat_add1, decide_true, decide_false, Bool.not_true, Bool.not_false, if_true, if_false, Bool.false_eq_true, reduceCtorEq, hlt', hl']
      exact ⟨by rw [hc]; rfl, by first | rfl | trivial⟩
    · have hl' : ¬ (a.length : Int) < (b.length : Int) := by omega
      rw [List.drop_eq_nil_of_le (show b.length ≤ i by omega)] at hc
      simp (disch := omega) only [r_ln, r_pick, r_pickT, r_pickF, r_condT, r_condF, r_gdTT, r_gdFF, r_gdTF, r_gdFT, r_gqTT, r_gqFF, r_gqTF, r_gqFT, r_not, r_lss, r_leq, r_gtr, r_geq, r_eql, r_neq, r_add, r_sub, r_min2, r_max2, r_min3, r_max3, r_fa, r_iaS, r_iaA, r_ex2a, r_ex2b, r_ex3a, r_ex3b, r_ex3c, r_nc, r_keepE, Nat.zero_add, Nat.add_zero, Nat.mul_one, Int.toNat_natCast, toNat_sub1, toNat_add1, decide_true, decide_false, Bool.not_true, Bool.not_false, if_true, if_false, Bool.false_eq_true, reduceCtorEq, hlt', hl']
      exact ⟨by rw [hc]; rfl, by first | rfl | trivial⟩
  have hlt' : (i : Int) < (a.length : Int) := by omega
  obtain ⟨ab, ao, _, ea, ac'⟩ := ha.at hlt
  cases ea
  by_cases hbi : i < b.length
  case neg =>
    have hbi' : (b.length : Int) ≤ (i : Int) := by omega
    have e1 : a.drop i = a[i] :: a.drop (i + 1) := List.drop_eq_getElem_cons hlt
    rw [List.drop_eq_nil_of_le (show b.length ≤ i by omega), e1] at hc
    simp (disch := omega) only [r_ln, r_pick, r_pickT, r_pickF, r_condT, r_condF, r_gdTT, r_gdFF, r_gdTF, r_gdFT, r_gqTT, r_gqFF, r_gqTF, r_gqFT, r_not, r_lss, r_leq, r_gtr, r_geq, r_eql, r_neq, r_add, r_sub, r_min2, r_max2, r_min3, r_max3, r_fa, r_iaS, r_iaA, r_ex2a, r_ex2b, r_ex3a, r_ex3b, r_ex3c, r_nc, r_keepE, Nat.zero_add, Nat.add_zero, Nat.mul_one, Int.toNat_natCast, toNat_sub1, toNat_add1, decide_true, decide_false, Bool.not_true, Bool.not_false, if_true, if_false, Bool.false_eq_true, reduceCtorEq, decide_eq_true hlt', r_ld ac', decide_eq_true hbi']
    exact ⟨by rw [hc]; rfl, by first | rfl | trivial⟩
  have hbi' : ¬ (b.length : Int) ≤ (i : Int) := by omega
  obtain ⟨bb, bo, _, eb, bc'⟩ := hb.at hbi
  cases eb
  rw [cmpL_step hlt hbi] at hc
  simp (disch := omega) only [r_ln, r_pick, r_pickT, r_pickF, r_condT, r_condF, r_gdTT, r_gdFF, r_gdTF, r_gdFT, r_gqTT, r_gqFF, r_gqTF, r_gqFT, r_not, r_lss, r_leq, r_gtr, r_geq, r_eql, r_neq, r_add, r_sub, r_min2, r_max2, r_min3, r_max3, r_fa, r_iaS, r_iaA, r_ex2a, r_ex2b, r_ex3a, r_ex3b, r_ex3c, r_nc, r_keepE, Nat.zero_add, Nat.add_zero, Nat.mul_one, Int.toNat_natCast, toNat_sub1, toNat_add1, decide_true, decide_false, Bool.not_true, Bool.not_false, if_true, if_false, Bool.false_eq_true, reduceCtorEq, decide_eq_true hlt', r_ld ac', hbi', r_ld bc']
  refine r_use fok103 (cmp_calls _ _ w) rfl ?_
  rintro _ _ ⟨rfl, rfl⟩
  refine ⟨_, rfl, ?_⟩
  by_cases hz : cmp1 (a.getD i 0) (b.getD i 0) = 0
  · rw [if_pos hz] at hc
    simp (disch := omega) only [r_ln, r_pick, r_pickT, r_pickF, r_condT, r_condF, r_gdTT, r_gdFF, r_gdTF, r_gdFT, r_gqTT, r_gqFF, r_gqTF, r_gqFT, r_not, r_lss, r_leq, r_gtr, r_geq, r_eql, r_neq, r_add, r_sub, r_min2, r_max2, r_min3, r_max3, r_fa, r_iaS, r_iaA, r_ex2a, r_ex2b, r_ex3a, r_ex3b, r_ex3c, r_nc, r_keepE, Nat.zero_add, Nat.add_zero, Nat.mul_one, Int.toNat_natCast, toNat_sub1, toNat_add1, decide_true, decide_false, Bool.not_true, Bool.not_false, if_true, if_false, Bool.false_eq_true, reduceCtorEq, decide_eq_true hz]
    exact ⟨⟨i + 1, by omega, by omega, by go_num, hc, by first | rfl | trivial⟩, by simp only [intOf]; omega⟩
  · rw [if_neg hz] at hc
    simp (disch := omega) only [r_ln, r_pick, r_pickT, r_pickF, r_condT, r_condF, r_gdTT, r_gdFF, r_gdTF, r_gdFT, r_gqTT, r_gqFF, r_gqTF, r_gqFT, r_not, r_lss, r_leq, r_gtr, r_geq, r_eql, r_neq, r_add, r_sub, r_min2, r_max2, r_min3, r_max3, r_fa, r_iaS, r_iaA, r_ex2a, r_ex2b, r_ex3a, r_ex3b, r_ex3c, r_nc, r_keepE, Nat.zero_add, Nat.add_zero, Nat.mul_one, Int.toNat_natCast, toNat_sub1, toNat_add1, decide_true, decide_false, Bool.not_true, Bool.not_false, if_true, if_false, Bool.false_eq_true, reduceCtorEq, decide_eq_false hz]
    exact ⟨by rw [hc], by first | rfl | trivial⟩

set_option maxRecDepth 100000 in
/-- slices.ContainsFunc, IndexFunc at integers, for a test that keeps what is there. -/
theorem indexF_calls {v fv : Value} {l : List Int} (p : Int → Bool) (w : World) (hr : RdInts w v l)
    (hc : ∀ x ∈ l, ∀ (w' : World) (K : Value → World → Prop), Kp w w' → (∀ w'', Kp w' w'' → K (.bool (p x)) w'') → callW Try.prog fv [.int .i64 x] w' K) :
    Calls Try.prog 102 #[v, fv] w fun e w' => ∃ n : Int, e = .returned (.int .i64 n) ∧ decide (0 ≤ n) = l.any p ∧ Kp w w' := by
  obtain ⟨a, cap, rfl, hl⟩ := hr.len
  refine lift102 ?_
  unfold S102
  simp only [r_ln, r_pick, r_pickT, r_pickF, r_condT, r_condF, r_gdTT, r_gdFF, r_gdTF, r_gdFT, r_gqTT, r_gqFF, r_gqTF, r_gqFT, r_not, r_lss, r_leq, r_gtr, r_geq, r_eql, r_neq, r_add, r_sub, r_min2, r_max2, r_min3, r_max3, r_fa, r_iaS, r_iaA, r_ex2a, r_ex2b, r_ex3a, r_ex3b, r_ex3c, r_nc, r_keepE, Nat.zero_add, Nat.add_zero, Nat.mul_one, Int.toNat_natCast, toNat_sub1, toNat_add1, decide_true, decide_false, Bool.not_true, Bool.not_false, if_true, if_false, Bool.false_eq_true, reduceCtorEq]
  refine ⟨fun t8 wr => ∃ i : Nat, i ≤ l.length ∧ t8 = .int .i64 i ∧ (l.take i).any p = false ∧ Kp w wr, fun t8 _ => l.length - (intOf t8).toNat, ⟨0, by omega, rfl, by simp, Kp.refl _⟩, ?_⟩
  rintro _ _ wr ⟨i, hi, rfl, hn, hk⟩
  by_cases hlt : i < l.length
  case neg =>
    have hlt' : ¬ (i : Int) < (l.length : Int) := by omega
    rw [List.take_of_length_le (by omega)] at hn
    simp (disch := omega) only [r_ln, r_pick, r_pickT, r_pickF, r_condT, r_condF, r_gdTT, r_gdFF, r_gdTF, r_gdFT, r_gqTT, r_gqFF, r_gqTF, r_gqFT, r_not, r_lss, r_leq, r_gtr, r_geq, r_eql, r_neq, r_add, r_sub, r_min2, r_max2, r_min3, r_max3, r_fa, r_iaS, r_iaA, r_ex2a, r_ex2b, r_ex3a, r_ex3b, r_ex3c, r_nc, r_keepE, Nat.zero_add, Nat.add_zero, Nat.mul_one, Int.toNat_natCast, toNat_sub1, toNat_add1, decide_true, decide_false, Bool.not_true, Bool.not_false, if_true, if_false, Bool.false_eq_true, reduceCtorEq, hlt']
    exact ⟨-1, rfl, by rw [hn]; decide, hk⟩
  have hlt' : (i : Int) < (l.length : Int) := by omega
  obtain ⟨b, off, _, e, hcell⟩ := (hr.below hk).at hlt
  cases e
  simp (disch := omega) only [r_ln, r_pick, r_pickT, r_pickF, r_condT, r_condF, r_gdTT, r_gdFF, r_gdTF, r_gdFT, r_gqTT, r_gqFF, r_gqTF, r_gqFT, r_not, r_lss, r_leq, r_gtr, r_geq, r_eql, r_neq, r_add, r_sub, r_min2, r_max2, r_min3, r_max3, r_fa, r_iaS, r_iaA, r_ex2a, r_ex2b, r_ex3a, r_ex3b, r_ex3c, r_nc, r_keepE, Nat.zero_add, Nat.add_zero, Nat.mul_one, Int.toNat_natCast, toNat_sub1, toNat_add1, decide_true, decide_false, Bool.not_true, Bool.not_false, if_true, if_false, Bool.false_eq_true, reduceCtorEq, decide_eq_true hlt', r_ld hcell]
  refine hc _ (getD_mem hlt) wr _ hk fun w2 k2 => ?_
  have htk : l.take (i + 1) = l.take i ++ [l.getD i 0] := by rw [take_succ' _ _ hlt, getD_lt _ _ _ hlt]
  cases hp : p (l.getD i 0) with
  | true =>
    simp (disch := omega) only [r_ln, r_pick, r_pickT, r_pickF, r_condT, r_condF, r_gdTT, r_gdFF, r_gdTF, r_gdFT, r_gqTT, r_gqFF, r_gqTF, r_gqFT, r_not, r_lss, r_leq, r_gtr, r_geq, r_eql, r_neq, r_add, r_sub, r_min2, r_max2, r_min3, r_max3, r_fa, r_iaS, r_iaA, r_ex2a, r_ex2b, r_ex3a, r_ex3b, r_ex3c, r_nc, r_keepE, Nat.zero_add, Nat.add_zero, Nat.mul_one, Int.toNat_natCast, toNat_sub1, toNat_add1, decide_true, decide_false, Bool.not_true, Bool.not_false, if_true, if_false, Bool.false_eq_true, reduceCtorEq]
    refine ⟨i, rfl, ?_, Kp.trans hk k2⟩
    have : l.any p = true := List.any_eq_true.2 ⟨_, getD_mem hlt, hp⟩
    rw [this]
    exact decide_eq_true (by omega)
  | false =>
    simp (disch := omega) only [r_ln, r_pick, r_pickT, r_pickF, r_condT, r_condF, r_gdTT, r_gdFF, r_gdTF, r_gdFT, r_gqTT, r_gqFF, r_gqTF, r_gqFT, r_not, r_lss, r_leq, r_gtr, r_geq, r_eql, r_neq, r_add, r_sub, r_min2, r_max2, r_min3, r_max3, r_fa, r_iaS, r_iaA, r_ex2a, r_ex2b, r_ex3a, r_ex3b, r_ex3c, r_nc, r_keepE, Nat.zero_add, Nat.add_zero, Nat.mul_one, Int.toNat_natCast, toNat_sub1, toNat_add1, decide_true, decide_false, Bool.not_true, Bool.not_false, if_true, if_false, Bool.false_eq_true, reduceCtorEq]
    exact ⟨⟨i + 1, by omega, by go_num, by rw [htk, List.any_append, hn, List.any_cons, List.any_nil, hp]; rfl, Kp.trans hk k2⟩, by simp only [intOf]; omega⟩

theorem containsF_calls {v fv : Value} {l : List Int} (p : Int → Bool) (w : World) (hr : RdInts w v l)
    (hc : ∀ x ∈ l, ∀ (w' : World) (K : Value → World → Prop), Kp w w' → (∀ w'', Kp w' w'' → K (.bool (p x)) w'') → callW Try.prog fv [.int .i64 x] w' K) :
    Calls Try.prog 54 #[v, fv] w fun e w' => e = .returned (.bool (l.any p)) ∧ Kp w w' := by
  refine lift54 ?_
  unfold S54
  refine r_use fok102 (indexF_calls p w hr hc) rfl ?_
  rintro _ w1 ⟨n, rfl, hn, k1⟩
  refine ⟨_, rfl, ?_⟩
  simp only [r_ln, r_pick, r_pickT, r_pickF, r_condT, r_condF, r_gdTT, r_gdFF, r_gdTF, r_gdFT, r_gqTT, r_gqFF, r_gqTF, r_gqFT, r_not, r_lss, r_leq, r_gtr, r_geq, r_eql, r_neq, r_add, r_sub, r_min2, r_max2, r_min3, r_max3, r_fa, r_iaS, r_iaA, r_ex2a, r_ex2b, r_ex3a, r_ex3b, r_ex3c, r_nc, r_keepE, Nat.zero_add, Nat.add_zero, Nat.mul_one, Int.toNat_natCast, toNat_sub1, toNat_add1, decide_true, decide_false, Bool.not_true, Bool.not_false, if_true, if_false, Bool.false_eq_true, reduceCtorEq, hn]
  exact ⟨by first | rfl | trivial, k1⟩

/-- The test of Refutes: no colour. -/
theorem nocol_call (x : Int) (w : World) (K : Value → World → Prop) (h : ∀ w', Kp w w' → K (.bool (!colB x)) w') : callW Try.prog (.func (.func 55) #[] #[]) [.int .i64 x] w K := by
  have hc : Calls Try.prog 55 #[.int .i64 x] w fun e w' => e = .returned (.bool (!colB x)) ∧ w = w' := by
    refine lift55 ?_
    unfold S55
    refine r_use fok56 (colour_calls x w) rfl ?_
    rintro _ _ ⟨rfl, rfl⟩
    refine ⟨_, rfl, ?_⟩
    simp only [r_ln, r_pick, r_pickT, r_pickF, r_condT, r_condF, r_gdTT, r_gdFF, r_gdTF, r_gdFT, r_gqTT, r_gqFF, r_gqTF, r_gqFT, r_not, r_lss, r_leq, r_gtr, r_geq, r_eql, r_neq, r_add, r_sub, r_min2, r_max2, r_min3, r_max3, r_fa, r_iaS, r_iaA, r_ex2a, r_ex2b, r_ex3a, r_ex3b, r_ex3c, r_nc, r_keepE, Nat.zero_add, Nat.add_zero, Nat.mul_one, Int.toNat_natCast, toNat_sub1, toNat_add1, decide_true, decide_false, Bool.not_true, Bool.not_false, if_true, if_false, Bool.false_eq_true, reduceCtorEq]
    exact ⟨by first | rfl | trivial, by first | rfl | trivial⟩
  refine r_use fok55 hc rfl ?_
  rintro _ _ ⟨rfl, rfl⟩
  exact ⟨_, rfl, h w (Kp.refl _)⟩

theorem rd_from {w : World} {a : Option Addr} {n c j : Nat} {l : List Int} (h : RdInts w (.slice a n c) l) (hj : j ≤ l.length) : RdInts w (.slice (if c = j then a else a.map fun x => x.add (j * 1)) (n - j) (c - j)) (l.drop j) := by
  obtain ⟨a', cap, e, hl, hh⟩ := h
  cases e
  have hd : (l.drop j).length = l.length - j := List.length_drop
  refine ⟨_, c - j, by rw [hd], by omega, fun h0 => ?_⟩
  obtain ⟨b, off, rfl, hcell⟩ := hh (by omega)
  refine ⟨b, off + j, ?_, fun i hi => ?_⟩
  · rw [if_neg (by omega)]
    simp [r_addr]
  · have := hcell (j + i) (by omega)
    rw [Nat.add_assoc, this]
    simp [List.getD_eq_getElem?_getD, List.getElem?_drop]

end Go.Proofs.Ytgalbokmgffhkaa

/- Contract: Refutes of the program. -/
namespace Go.Proofs.Ytgalbokmgffhkaa
open Go.Lf Go.RowKit Go.Wg

abbrev nilS : Value := .slice none 0 0
def rowB (W H : Nat) (p : List Int) : Bool := decide (p.length = W + 1) && decide (1 ≤ p.getD 0 0) && decide (p.getD 0 0 < H) && (p.drop 1).all colB
def upB (proof : List (List Int)) (i : Nat) : Bool := decide (i = 0) || decide (cmpL (proof.getD (i - 1) []) (proof.getD i []) < 0)
def okP (W H : Nat) (proof : List (List Int)) : Prop := ∀ i, i < proof.length → rowB W H (proof.getD i []) = true ∧ upB proof i = true
def deadF (d : Int → Int) (p : List Int) : Int → Int := if d (code (p.drop 1)) = 0 then upd d (code (p.drop 1)) (p.getD 0 0) else d
def deadL (proof : List (List Int)) : Int → Int := proof.foldl deadF (fun _ => 0)
def finP (L : List Line) (d : Int → Int) : Prop := (∀ x ∈ L, d x.2.2.1 ≠ 0) ∧ ∀ c, d c ≠ 0 → ∀ x ∈ L, x.2.1 = c → d x.2.2.1 < d c
def grpL (L : List Line) (c : Int) : List Int := (L.filter fun x => decide (x.2.1 = c)).map fun x => x.2.2.1

theorem und68 : Try.prog.underlying 68 = some (.map 3 3) := by kernel_rfl
theorem und75 : Try.prog.underlying 75 = some (.map 3 30) := by kernel_rfl
theorem zero3 (w : World) : (zeroValue 3).run Try.prog w = .ok (iK 0) w := by kernel_rfl
theorem zero30 (w : World) : (zeroValue 30).run Try.prog w = .ok nilS w := by kernel_rfl

theorem any_not (l : List Int) : (l.any fun x => !colB x) = !(l.all colB) := by
  induction l with
  | nil => rfl
  | cons x l ih => simp [ih]
theorem all_cols {l : List Int} (h : l.all colB = true) : Cols l := fun x hx => by
  have := List.all_eq_true.1 h x hx
  simpa [colB] using this

/-- A map of lists, each in memory of its own. -/
def GrpAt (base : Nat) (w : World) (b : Nat) (N : Int → List Int) : Prop := ∃ f, MapF w b nilS f ∧ (∀ c, IntsAt base w (f c) (N c)) ∧ ∀ c c', c ≠ c' → ∀ k, (f c).ownBlock = some k → (f c').ownBlock ≠ some k

theorem GrpAt.chg {S : Nat → Prop} {base : Nat} {w w' : World} {b : Nat} {N : Int → List Int} (h : GrpAt base w b N) (hc : Chg S w w') (hb : ¬ S b) (hs : ∀ k, base ≤ k → k < w.heap.size → ¬ S k) : GrpAt base w' b N := by
  obtain ⟨f, h1, h2, h3⟩ := h
  exact ⟨f, h1.chg hc hb, fun c => (h2 c).chg hc fun k hk => hs k ((h2 c).lt hk).1 ((h2 c).lt hk).2, h3⟩
theorem GrpAt.kp {base : Nat} {w w' : World} {b : Nat} {N : Int → List Int} (h : GrpAt base w b N) (hc : Kp w w') : GrpAt base w' b N := by
  obtain ⟨f, h1, h2, h3⟩ := h
  exact ⟨f, h1.kp hc, fun c => (h2 c).kp hc, h3⟩

/-- The test of Refutes on the heights. -/
theorem high_call {d : Int → Int} {k x : Int} {bm b11 b20 : Nat} (w : World) (hm : MapF w bm (iK 0) fun c => iK (d c)) (h11 : w.heap[b11]? = some (.cells #[.map (some bm)] 68 (0, 0))) (h20 : w.heap[b20]? = some (.cells #[.int .i64 k] 3 (0, 0))) (hx : IKey x)
    (w' : World) (hk : Kp w w') (K : Value → World → Prop) (h : ∀ w'', Kp w' w'' → K (.bool (decide (k ≤ d x))) w'') : callW Try.prog (.func (.func 60) #[] #[.pointer (some ⟨b11, 0, none⟩), .pointer (some ⟨b20, 0, none⟩)]) [.int .i64 x] w' K := by
  have hc : Calls Try.prog 60 #[.int .i64 x, .pointer (some ⟨b11, 0, none⟩), .pointer (some ⟨b20, 0, none⟩)] w' fun e w'' => e = .returned (.bool (decide (k ≤ d x))) ∧ w' = w'' := by
    refine lift60 ?_
    unfold S60
    have c1 : w'.cell? ⟨b11, 0, none⟩ = some (.map (some bm)) := by rw [cell_row (block_below h11 hk)]; rfl
    have c2 : w'.cell? ⟨b20, 0, none⟩ = some (.int .i64 k) := by rw [cell_row (block_below h20 hk)]; rfl
    rw [r_ld c1, r_lkF und68 zero3 (hm.kp hk) hx, r_ld c2]
    simp only [r_ln, r_pick, r_pickT, r_pickF, r_condT, r_condF, r_gdTT, r_gdFF, r_gdTF, r_gdFT, r_gqTT, r_gqFF, r_gqTF, r_gqFT, r_not, r_lss, r_leq, r_gtr, r_geq, r_eql, r_neq, r_add, r_sub, r_min2, r_max2, r_min3, r_max3, r_fa, r_iaS, r_iaA, r_ex2a, r_ex2b, r_ex3a, r_ex3b, r_ex3c, r_nc, r_keepE, Nat.zero_add, Nat.add_zero, Nat.mul_one, Int.toNat_natCast, toNat_sub1, toNat_add1, decide_true, decide_false, Bool.not_true, Bool.not_false, if_true, if_false, Bool.false_eq_true, reduceCtorEq]
    exact ⟨by first | rfl | trivial, by first | rfl | trivial⟩
  refine r_use fok60 hc rfl ?_
  rintro _ _ ⟨rfl, rfl⟩
  exact ⟨_, rfl, h w' (Kp.refl _)⟩

set_option maxRecDepth 100000 in
/-- append(v, xs...) where v is one's own, and where the new slice lies. -/
theorem r_apAt {t e ty : TypeId} {size bytes base n m c : Nat} {v : Value} {xs news : List Value} {a : Addr} {w : World} {K : Value → World → Prop} (T : SlT t e size bytes)
    (hown : w.ownsRow base e size v n xs) (hl : news.length = m * size) (hnews : ∀ j u, news[j]? = some u → w.cell? (a.add j) = some u) (h1 : ∀ u ∈ news, u.oneCell' = true)
    (hn : n + m ≤ 1099511627776) (hby : bytes ≤ 128) (hb : base ≤ w.heap.size)
    (hk : ∀ v' w', w'.ownsRow base e size v' (n + m) (xs ++ news) → Chg (fun k => v.ownBlock = some k) w w' → (∀ k, v'.ownBlock = some k → v.ownBlock = some k ∨ w.heap.size ≤ k) → K v' w') : semW Try.prog (apS [t, t] ty [v, .slice (some a) m c]) w K := by
  obtain ⟨i, z, i1, i2, i3, i4, i5⟩ := T.info
  have hb2 : (n + m) * bytes ≤ 140737488355328 := Nat.le_trans (Nat.mul_le_mul hn hby) (by decide)
  obtain ⟨v', w', hr, ho, hg, _, hat⟩ := run_append_own_at (P := Try.prog) (w := w) base t ty e i z size bytes T.und i1 i2 i3 i4 i5 T.pos v n xs hown a m c news hl hnews h1 (by unfold maxLen; omega) hb2 hb
  refine semW_of_run (by simp [apS, hr]) (hk v' w' ho (Chg.of_grown hg fun k hk => hk) fun k hk => ?_)
  rcases hat with h | h
  · exact .inl (h ▸ hk)
  · rw [h] at hk
    cases hk
    exact .inr (by omega)

theorem grp_take {L : List Line} {i : Nat} {x : Line} (hx : L[i]? = some x) (c : Int) : grpL (L.take (i + 1)) c = grpL (L.take i) c ++ if x.2.1 = c then [x.2.2.1] else [] := by
  have : L.take (i + 1) = L.take i ++ [x] := by rw [List.take_add_one, hx]; rfl
  rw [this, grpL, List.filter_append, List.map_append]
  congr 1
  by_cases h : x.2.1 = c <;> simp [h]
theorem grp_len (L : List Line) (c : Int) : (grpL L c).length ≤ L.length := by
  rw [grpL, List.length_map]
  exact List.length_filter_le _ _
theorem mem_grp {L : List Line} {c s : Int} : s ∈ grpL L c ↔ ∃ x ∈ L, x.2.1 = c ∧ x.2.2.1 = s := by
  simp only [grpL, List.mem_map, List.mem_filter, decide_eq_true_eq]
  constructor
  · rintro ⟨x, ⟨h1, h2⟩, h3⟩; exact ⟨x, h1, h2, h3⟩
  · rintro ⟨x, h1, h2, h3⟩; exact ⟨x, ⟨h1, h2⟩, h3⟩

/-- What Refutes returns. -/
def RefPost (l : List Tile) (a b : Int) (proof : List (List Int)) (e : Ending) : Prop :=
  (ordErr l a b ≠ 0 ∧ e = .returned (.tuple #[.bool false, .int .i64 2])) ∨ (ordErr l a b = 0 ∧ 65535 < proof.length ∧ e = .returned (.tuple #[.bool false, .int .i64 3])) ∨
    (ordErr l a b = 0 ∧ proof.length ≤ 65535 ∧ ∃ r, e = .returned (.tuple #[.bool r, .int .i64 0]) ∧ (r = true ↔ okP a.toNat b.toNat proof ∧ finP (linesL l a.toNat) (deadL proof)))

set_option maxRecDepth 100000 in
set_option maxHeartbeats 800000 in
theorem refutes_calls {v pv : Value} {l : List Tile} {proof : List (List Int)} (a b : Int) (w : World) (hr : RdT w v l) (hp : RdRows w pv proof) :
    Calls Try.prog 19 #[v, .int .i64 a, .int .i64 b, pv] w fun e w' => Kp w w' ∧ RefPost l a b proof e := by
  obtain ⟨pa, pcap, rfl, hpl⟩ := hp.len
  refine lift19 ?_
  unfold S19
  refine r_use fok53 (board_calls a b w hr) rfl ?_
  rintro _ w1 ⟨rfl, k1⟩
  refine ⟨_, rfl, ?_⟩
  have h20 : ¬ ((2 : Int) = 0) := by decide
  rcases ordErr_cases l a b with he | he
  rotate_left
  · simp (disch := omega) only [r_ln, r_pick, r_pickT, r_pickF, r_condT, r_condF, r_gdTT, r_gdFF, r_gdTF, r_gdFT, r_gqTT, r_gqFF, r_gqTF, r_gqFT, r_not, r_lss, r_leq, r_gtr, r_geq, r_eql, r_neq, r_add, r_sub, r_min2, r_max2, r_min3, r_max3, r_fa, r_iaS, r_iaA, r_ex2a, r_ex2b, r_ex3a, r_ex3b, r_ex3c, r_nc, r_keepE, Nat.zero_add, Nat.add_zero, Nat.mul_one, Int.toNat_natCast, toNat_sub1, toNat_add1, decide_true, decide_false, Bool.not_true, Bool.not_false, if_true, if_false, Bool.false_eq_true, reduceCtorEq, he, h20]
    exact ⟨k1, .inl ⟨by rw [he]; decide, rfl⟩⟩
  obtain ⟨hs, W, H, rfl, rfl, hW, hH⟩ := ord_ok he
  by_cases hlen : (65535 : Int) < (proof.length : Int)
  · simp (disch := omega) only [r_ln, r_pick, r_pickT, r_pickF, r_condT, r_condF, r_gdTT, r_gdFF, r_gdTF, r_gdFT, r_gqTT, r_gqFF, r_gqTF, r_gqFT, r_not, r_lss, r_leq, r_gtr, r_geq, r_eql, r_neq, r_add, r_sub, r_min2, r_max2, r_min3, r_max3, r_fa, r_iaS, r_iaA, r_ex2a, r_ex2b, r_ex3a, r_ex3b, r_ex3c, r_nc, r_keepE, Nat.zero_add, Nat.add_zero, Nat.mul_one, Int.toNat_natCast, toNat_sub1, toNat_add1, decide_true, decide_false, Bool.not_true, Bool.not_false, if_true, if_false, Bool.false_eq_true, reduceCtorEq, he, decide_eq_true (rfl : (0 : Int) = 0), decide_eq_true hlen]
    exact ⟨k1, .inr (.inl ⟨he, by omega, rfl⟩)⟩
  simp (disch := omega) only [r_ln, r_pick, r_pickT, r_pickF, r_condT, r_condF, r_gdTT, r_gdFF, r_gdTF, r_gdFT, r_gqTT, r_gqFF, r_gqTF, r_gqFT, r_not, r_lss, r_leq, r_gtr, r_geq, r_eql, r_neq, r_add, r_sub, r_min2, r_max2, r_min3, r_max3, r_fa, r_iaS, r_iaA, r_ex2a, r_ex2b, r_ex3a, r_ex3b, r_ex3c, r_nc, r_keepE, Nat.zero_add, Nat.add_zero, Nat.mul_one, Int.toNat_natCast, toNat_sub1, toNat_add1, decide_true, decide_false, Bool.not_true, Bool.not_false, if_true, if_false, Bool.false_eq_true, reduceCtorEq, he, decide_eq_true (rfl : (0 : Int) = 0), hlen, mmW]
  have m2 := map_new w1 (iK 0)
  have k2 : Kp w1 (w1.alloc (.map #[] 0)) := below_alloc _
  have sz2 : (w1.alloc (.map #[] 0)).heap.size = w1.heap.size + 1 := by show (w1.heap.push _).size = _; simp
  generalize hbm : w1.heap.size = bm at *
  generalize w1.alloc (.map #[] 0) = w2 at *
  refine r_box fun b11 w3 e3 s3 h3 k3 => ?_
  refine r_stAll (n := 1) (ty := 68) (cs := #[.map none]) (by kernel_rfl) rfl (by intro u hu; simp [Value.cells] at hu; subst hu; rfl) h3 rfl fun w4 c4 s4 h4 => ?_
  have sk1 := k1.size
  have m4 : MapF w4 bm (iK 0) (fun c => iK (deadL [] c)) := (m2.kp k3).chg c4 (by omega)
  have k04 : Kp w w4 := Kp.of_chg (Kp.trans k1 (Kp.trans k2 k3)) c4 fun i e => by have := (Kp.trans k1 k2).size; omega
  try simp only [Int.toNat_natCast]
  have hbmw : w.heap.size ≤ bm := by omega
  refine ⟨fun t34 wr => ∃ i : Nat, i ≤ proof.length ∧ t34 = .int .i64 i ∧ (∀ k, k < i → rowB W H (proof.getD k []) = true ∧ upB proof k = true) ∧ MapF wr bm (iK 0) (fun c => iK (deadL (proof.take i) c)) ∧ wr.heap[b11]? = some (.cells #[.map (some bm)] 68 (0, 0)) ∧ Kp w wr ∧ Kp w1 wr,
    fun t34 _ => proof.length - (intOf t34).toNat, ⟨0, by omega, rfl, fun k hk => absurd hk (by omega), m4, h4, k04, Kp.of_chg (Kp.trans k2 k3) c4 fun i e => by omega⟩, ?_⟩
  rintro _ _ wr ⟨i, hi, rfl, hok, hmr, h11, kr, kr1⟩
  by_cases hlt : i < proof.length
  case neg =>
    have hlt' : ¬ (i : Int) < (proof.length : Int) := by omega
    rw [List.take_of_length_le (by omega)] at hmr
    have hokP : okP W H proof := fun k hk => hok k (by omega)
    have outF : ¬ finP (linesL l W) (deadL proof) → RefPost l W H proof (.returned (.tuple #[.bool false, .int .i64 0])) := fun hb => by
      refine .inr (.inr ⟨he, by omega, false, rfl, ?_⟩)
      constructor
      · intro h; cases h
      · intro h; exact absurd h.2 hb
    have outT : finP (linesL l W) (deadL proof) → RefPost l W H proof (.returned (.tuple #[.bool true, .int .i64 0])) := fun hb =>
      .inr (.inr ⟨he, by omega, true, rfl, fun _ => ⟨hokP, hb⟩, fun _ => rfl⟩)
    simp (disch := omega) only [r_ln, r_pick, r_pickT, r_pickF, r_condT, r_condF, r_gdTT, r_gdFF, r_gdTF, r_gdFT, r_gqTT, r_gqFF, r_gqTF, r_gqFT, r_not, r_lss, r_leq, r_gtr, r_geq, r_eql, r_neq, r_add, r_sub, r_min2, r_max2, r_min3, r_max3, r_fa, r_iaS, r_iaA, r_ex2a, r_ex2b, r_ex3a, r_ex3b, r_ex3c, r_nc, r_keepE, Nat.zero_add, Nat.add_zero, Nat.mul_one, Int.toNat_natCast, toNat_sub1, toNat_add1, decide_true, decide_false, Bool.not_true, Bool.not_false, if_true, if_false, Bool.false_eq_true, reduceCtorEq, hlt']
    refine r_use fok59 (rows_calls hs hW wr (hr.kp kr)) rfl ?_
    rintro _ w5 ⟨lv, rfl, k5, hL⟩
    refine ⟨_, rfl, ?_⟩
    change LnAt _ _ _ (linesL l W) at hL
    have hlo := lines_ok hs hW.2
    have hll := lines_len hs hW.2
    have h8 := pow8N_le hW.2
    try simp only [mmW]
    have mg := map_new w5 nilS
    have kg : Kp w5 (w5.alloc (.map #[] 0)) := below_alloc _
    have sg : (w5.alloc (.map #[] 0)).heap.size = w5.heap.size + 1 := by show (w5.heap.push _).size = _; simp
    generalize hbn : w5.heap.size = bn at *
    generalize w5.alloc (.map #[] 0) = w6 at *
    obtain ⟨la, lcap, rfl, hlc⟩ := hL.len
    have hkp5 : Kp w w5 := Kp.trans kr k5
    have m5 := hmr.kp k5
    have h115 := block_below h11 k5
    have hrdL := hL.rd lnC_len
    generalize linesL l W = L at *
    generalize deadL proof = D at *
    have ikey : ∀ x ∈ L, IKey x.2.1 ∧ IKey x.2.2.1 := fun x hx => by
      obtain ⟨⟨x1, x2⟩, x3, x4⟩ := hlo x hx
      have e8 : ((8 ^ W : Nat) : Int) ≤ 4096 := by exact_mod_cast h8
      exact ⟨⟨by omega, by omega⟩, by omega, by omega⟩
    try simp only [r_ln, r_pick, r_pickT, r_pickF, r_condT, r_condF, r_gdTT, r_gdFF, r_gdTF, r_gdFT, r_gqTT, r_gqFF, r_gqTF, r_gqFT, r_not, r_lss, r_leq, r_gtr, r_geq, r_eql, r_neq, r_add, r_sub, r_min2, r_max2, r_min3, r_max3, r_fa, r_iaS, r_iaA, r_ex2a, r_ex2b, r_ex3a, r_ex3b, r_ex3c, r_nc, r_keepE, Nat.zero_add, Nat.add_zero, Nat.mul_one, Int.toNat_natCast, toNat_sub1, toNat_add1, decide_true, decide_false, Bool.not_true, Bool.not_false, if_true, if_false, Bool.false_eq_true, reduceCtorEq]
    refine ⟨fun t95 wq => ∃ q : Nat, q ≤ L.length ∧ t95 = .int .i64 q ∧ (∀ x ∈ L.take q, D x.2.2.1 ≠ 0) ∧ GrpAt w6.heap.size wq bn (grpL (L.take q)) ∧ Kp w5 wq ∧ w6.heap.size ≤ wq.heap.size, fun t95 _ => L.length - (intOf t95).toNat,
      ⟨0, by omega, rfl, by simp, ⟨_, mg, fun c => by simp only [grpL, List.take_zero, List.filter_nil, List.map_nil]; exact RecAt.nil, fun c c' _ k h => by cases h⟩, kg, Nat.le_refl _⟩, ?_⟩
    rintro _ _ wq ⟨q, hq, rfl, hdq, hgq, kq, sq⟩
    have mq := m5.kp kq
    have h11q := block_below h115 kq
    have bm5 := m5.lt
    have b115 := block_lt h115
    have kwq := Kp.trans hkp5 kq
    by_cases hql : q < L.length
    case neg =>
      have hql' : ¬ (q : Int) < (L.length : Int) := by omega
      rw [List.take_of_length_le (by omega)] at hdq hgq
      have c11 : wq.cell? ⟨b11, 0, none⟩ = some (.map (some bm)) := by rw [cell_row h11q]; rfl
      simp (disch := omega) only [r_ln, r_pick, r_pickT, r_pickF, r_condT, r_condF, r_gdTT, r_gdFF, r_gdTF, r_gdFT, r_gqTT, r_gqFF, r_gqTF, r_gqFT, r_not, r_lss, r_leq, r_gtr, r_geq, r_eql, r_neq, r_add, r_sub, r_min2, r_max2, r_min3, r_max3, r_fa, r_iaS, r_iaA, r_ex2a, r_ex2b, r_ex3a, r_ex3b, r_ex3c, r_nc, r_keepE, Nat.zero_add, Nat.add_zero, Nat.mul_one, Int.toNat_natCast, toNat_sub1, toNat_add1, decide_true, decide_false, Bool.not_true, Bool.not_false, if_true, if_false, Bool.false_eq_true, reduceCtorEq, hql', r_ld c11]
      refine r_rgF und68 mq fun z1 left0 hit kz1 => ?_
      obtain ⟨f, hf1, hf2, hf3⟩ := hgq
      have sz1 := kz1.size
      have hwq := kwq.size
      have hbnq := hf1.lt
      refine ⟨fun wz => ∃ (left : Nat) (seen : Int → Prop), IterF wz bm wq.heap.size (iK 0) (fun c => iK (D c)) left seen ∧ (∀ c, seen c → ∀ x ∈ L, x.2.1 = c → D x.2.2.1 < D c) ∧ Chg (fun k => k = wq.heap.size) z1 wz, fun wz => leftW wz bm wq.heap.size, ⟨left0, _, hit, fun c h => h.elim, Chg.refl _ _⟩, ?_⟩
      rintro _ wz ⟨left, seen, hitz, hsz, cz⟩
      have kwz : Kp w wz := Kp.of_chg (Kp.trans kwq kz1) cz fun k e => by omega
      have hlw := hitz.left
      have bmq := mq.lt
      have b11q := block_lt h11q
      refine r_nxF hitz (fun hall => ?_) fun c w' left' hik hcz hll' hit' hch hss hen => ?_
      · rw [r_exQ _ 0 (.bool false) rfl, r_condF]
        exact ⟨kwz, outT ⟨hdq, fun c hc x hx hxc => hsz c (hall c fun e => hc (iK_inj e)) x hx hxc⟩⟩
      have hDc : D c ≠ 0 := fun e => hcz (by rw [e])
      simp only [r_ln, r_pick, r_pickT, r_pickF, r_condT, r_condF, r_gdTT, r_gdFF, r_gdTF, r_gdFT, r_gqTT, r_gqFF, r_gqTF, r_gqFT, r_not, r_lss, r_leq, r_gtr, r_geq, r_eql, r_neq, r_add, r_sub, r_min2, r_max2, r_min3, r_max3, r_fa, r_iaS, r_iaA, r_ex2a, r_ex2b, r_ex3a, r_ex3b, r_ex3c, r_nc, r_keepE, Nat.zero_add, Nat.add_zero, Nat.mul_one, Int.toNat_natCast, toNat_sub1, toNat_add1, decide_true, decide_false, Bool.not_true, Bool.not_false, if_true, if_false, Bool.false_eq_true, reduceCtorEq]
      rw [hen]
      simp only [r_ln, r_pick, r_pickT, r_pickF, r_condT, r_condF, r_gdTT, r_gdFF, r_gdTF, r_gdFT, r_gqTT, r_gqFF, r_gqTF, r_gqFT, r_not, r_lss, r_leq, r_gtr, r_geq, r_eql, r_neq, r_add, r_sub, r_min2, r_max2, r_min3, r_max3, r_fa, r_iaS, r_iaA, r_ex2a, r_ex2b, r_ex3a, r_ex3b, r_ex3c, r_nc, r_keepE, Nat.zero_add, Nat.add_zero, Nat.mul_one, Int.toNat_natCast, toNat_sub1, toNat_add1, decide_true, decide_false, Bool.not_true, Bool.not_false, if_true, if_false, Bool.false_eq_true, reduceCtorEq]
      have cz' : Chg (fun k => k = wq.heap.size) z1 w' := cz.trans hch
      refine r_box fun b20 u1 e20 s20 h20 v1 => ?_
      refine r_stAll (n := 1) (ty := 3) (cs := #[.int .i64 0]) (by kernel_rfl) rfl (by intro u hu; simp [Value.cells] at hu; subst hu; rfl) h20 rfl fun u2 d2 s2' h202 => ?_
      have v2 : Kp w' u2 := Kp.of_chg v1 d2 fun i e => by omega
      have kw' : Kp w w' := Kp.of_chg (Kp.trans kwq kz1) cz' fun k e => by omega
      have hfu : MapF u2 bn nilS f := ((hf1.kp kz1).chg cz' (by omega)).kp v2
      have hiu : IntsAt w6.heap.size u2 (f c) (grpL L c) := (((hf2 c).kp kz1).chg cz' fun k hk e => by have := ((hf2 c).lt hk).2; omega).kp v2
      have hdu : MapF u2 bm (iK 0) (fun c => iK (D c)) := ((mq.kp kz1).chg cz' (by omega)).kp v2
      have h11u : u2.heap[b11]? = some (.cells #[.map (some bm)] 68 (0, 0)) := block_below (cz'.at (block_below h11q kz1) (by omega)) v2
      rw [r_lkF und75 zero30 hfu hik]
      have hgl := grp_len L c
      refine r_use fok54 (containsF_calls (fun s => decide (D c ≤ D s)) u2 ((hiu.rd iC_len).ints (by omega)) fun s hs u3 K v3 hK => ?_) rfl ?_
      · obtain ⟨x, hx, _, rfl⟩ := mem_grp.1 hs
        exact high_call u2 hdu h11u h202 (ikey x hx).2 u3 v3 K hK
      rintro _ u4 ⟨rfl, v4⟩
      refine ⟨_, rfl, ?_⟩
      have v24 := Kp.trans v2 v4
      cases hany : (grpL L c).any fun s => decide (D c ≤ D s) with
      | true =>
        simp only [r_ln, r_pick, r_pickT, r_pickF, r_condT, r_condF, r_gdTT, r_gdFF, r_gdTF, r_gdFT, r_gqTT, r_gqFF, r_gqTF, r_gqFT, r_not, r_lss, r_leq, r_gtr, r_geq, r_eql, r_neq, r_add, r_sub, r_min2, r_max2, r_min3, r_max3, r_fa, r_iaS, r_iaA, r_ex2a, r_ex2b, r_ex3a, r_ex3b, r_ex3c, r_nc, r_keepE, Nat.zero_add, Nat.add_zero, Nat.mul_one, Int.toNat_natCast, toNat_sub1, toNat_add1, decide_true, decide_false, Bool.not_true, Bool.not_false, if_true, if_false, Bool.false_eq_true, reduceCtorEq]
        refine ⟨Kp.trans kw' v24, outF fun h => ?_⟩
        obtain ⟨s, hs, hle⟩ := List.any_eq_true.1 hany
        obtain ⟨x, hx, hxc, rfl⟩ := mem_grp.1 hs
        have := h.2 c hDc x hx hxc
        simp only [decide_eq_true_eq] at hle
        omega
      | false =>
        simp only [r_ln, r_pick, r_pickT, r_pickF, r_condT, r_condF, r_gdTT, r_gdFF, r_gdTF, r_gdFT, r_gqTT, r_gqFF, r_gqTF, r_gqFT, r_not, r_lss, r_leq, r_gtr, r_geq, r_eql, r_neq, r_add, r_sub, r_min2, r_max2, r_min3, r_max3, r_fa, r_iaS, r_iaA, r_ex2a, r_ex2b, r_ex3a, r_ex3b, r_ex3c, r_nc, r_keepE, Nat.zero_add, Nat.add_zero, Nat.mul_one, Int.toNat_natCast, toNat_sub1, toNat_add1, decide_true, decide_false, Bool.not_true, Bool.not_false, if_true, if_false, Bool.false_eq_true, reduceCtorEq]
        have hit2 : IterF u4 bm wq.heap.size (iK 0) (fun c => iK (D c)) left' (fun x => seen x ∨ x = c) := hit'.chg (Chg.of_kp (S := fun _ => False) v24) id id
        refine ⟨⟨left', _, hit2, fun c' hc' x hx hxc => ?_, cz'.trans (Chg.of_kp v24)⟩, by rw [hit2.left, hlw]; exact hll'⟩
        rcases hc' with h | rfl
        · exact hsz c' h x hx hxc
        · refine Int.lt_of_not_ge fun hge => ?_
          have := List.any_eq_false.1 hany _ (mem_grp.2 ⟨x, hx, hxc, rfl⟩)
          simp only [decide_eq_true_eq] at this
          exact this hge
    have hql' : (q : Int) < (L.length : Int) := by omega
    obtain ⟨x, hx⟩ : ∃ x, L[q]? = some x := ⟨_, List.getElem?_eq_getElem hql⟩
    have hxm := List.mem_of_getElem? hx
    obtain ⟨lb, lo, lc, el, _, hld⟩ := RdL.line (hrdL.kp kq) hx
    cases el
    simp (disch := omega) only [r_ln, r_pick, r_pickT, r_pickF, r_condT, r_condF, r_gdTT, r_gdFF, r_gdTF, r_gdFT, r_gqTT, r_gqFF, r_gqTF, r_gqFT, r_not, r_lss, r_leq, r_gtr, r_geq, r_eql, r_neq, r_add, r_sub, r_min2, r_max2, r_min3, r_max3, r_fa, r_iaS, r_iaA, r_ex2a, r_ex2b, r_ex3a, r_ex3b, r_ex3c, r_nc, r_keepE, Nat.zero_add, Nat.add_zero, Nat.mul_one, Int.toNat_natCast, toNat_sub1, toNat_add1, decide_true, decide_false, Bool.not_true, Bool.not_false, if_true, if_false, Bool.false_eq_true, reduceCtorEq, decide_eq_true hql', hld]
    refine r_box fun b18 x2 e18 s18 h18 y2 => ?_
    refine r_stAll (n := 7) (ty := 78) (by kernel_rfl) rfl (by intro u hu; simp [Value.cells] at hu; rcases hu with rfl | rfl | rfl | rfl | rfl | rfl | rfl <;> rfl) h18 rfl fun x3 c18 s18' h183 => ?_
    have y3 : Kp wq x3 := Kp.of_chg y2 c18 fun i e => by omega
    have c11 : x3.cell? ⟨b11, 0, none⟩ = some (.map (some bm)) := by rw [cell_row (block_below h11q y3)]; rfl
    have c5 : x3.cell? ⟨b18, 5, none⟩ = some (.int .i64 x.2.2.1) := by rw [cell_row h183]; rfl
    obtain ⟨ik1, ik2⟩ := ikey x hxm
    rw [r_ld c11]
    simp only [r_ln, r_pick, r_pickT, r_pickF, r_condT, r_condF, r_gdTT, r_gdFF, r_gdTF, r_gdFT, r_gqTT, r_gqFF, r_gqTF, r_gqFT, r_not, r_lss, r_leq, r_gtr, r_geq, r_eql, r_neq, r_add, r_sub, r_min2, r_max2, r_min3, r_max3, r_fa, r_iaS, r_iaA, r_ex2a, r_ex2b, r_ex3a, r_ex3b, r_ex3c, r_nc, r_keepE, Nat.zero_add, Nat.add_zero, Nat.mul_one, Int.toNat_natCast, toNat_sub1, toNat_add1, decide_true, decide_false, Bool.not_true, Bool.not_false, if_true, if_false, Bool.false_eq_true, reduceCtorEq]
    rw [r_ld c5, r_lkF und68 zero3 (mq.kp y3) ik2, r_eql]
    by_cases hd0 : D x.2.2.1 = 0
    · simp (disch := omega) only [r_ln, r_pick, r_pickT, r_pickF, r_condT, r_condF, r_gdTT, r_gdFF, r_gdTF, r_gdFT, r_gqTT, r_gqFF, r_gqTF, r_gqFT, r_not, r_lss, r_leq, r_gtr, r_geq, r_eql, r_neq, r_add, r_sub, r_min2, r_max2, r_min3, r_max3, r_fa, r_iaS, r_iaA, r_ex2a, r_ex2b, r_ex3a, r_ex3b, r_ex3c, r_nc, r_keepE, Nat.zero_add, Nat.add_zero, Nat.mul_one, Int.toNat_natCast, toNat_sub1, toNat_add1, decide_true, decide_false, Bool.not_true, Bool.not_false, if_true, if_false, Bool.false_eq_true, reduceCtorEq, decide_eq_true hd0]
      exact ⟨Kp.trans kwq y3, outF fun h => h.1 x hxm hd0⟩
    simp (disch := omega) only [r_ln, r_pick, r_pickT, r_pickF, r_condT, r_condF, r_gdTT, r_gdFF, r_gdTF, r_gdFT, r_gqTT, r_gqFF, r_gqTF, r_gqFT, r_not, r_lss, r_leq, r_gtr, r_geq, r_eql, r_neq, r_add, r_sub, r_min2, r_max2, r_min3, r_max3, r_fa, r_iaS, r_iaA, r_ex2a, r_ex2b, r_ex3a, r_ex3b, r_ex3c, r_nc, r_keepE, Nat.zero_add, Nat.add_zero, Nat.mul_one, Int.toNat_natCast, toNat_sub1, toNat_add1, decide_true, decide_false, Bool.not_true, Bool.not_false, if_true, if_false, Bool.false_eq_true, reduceCtorEq, hd0]
    refine r_drew fun x4 y4 _ => ?_
    have y04 := Kp.trans y3 y4
    have h184 := block_below h183 y4
    have c4' : x4.cell? ⟨b18, 4, none⟩ = some (.int .i64 x.2.1) := by rw [cell_row h184]; rfl
    have c5' : x4.cell? ⟨b18, 5, none⟩ = some (.int .i64 x.2.2.1) := by rw [cell_row h184]; rfl
    obtain ⟨f, hf1, hf2, hf3⟩ := hgq.kp y04
    have hfc := hf2 x.2.1
    have sy := y04.size
    have sx3 := y3.size
    have fb : ∀ c k, (f c).ownBlock = some k → w6.heap.size ≤ k ∧ k ≠ b18 := fun c k hk => by
      refine ⟨((hf2 c).lt hk).1, fun e => ?_⟩
      obtain ⟨f0, _, g2, _⟩ := hgq
      subst e
      rcases (hf2 c).2 with ⟨h, _⟩ | ⟨g, cap, cur, h, _, hg, _⟩
      · rw [h] at hk; cases hk
      · rw [h] at hk
        cases hk
        rw [h184] at hg
        injection hg with hg
        injection hg with _ h3 _
        exact absurd h3 (by decide)
    have nb18 : ¬ (fun k => (f x.2.1).ownBlock = some k) b18 := fun h => (fb _ _ h).2 rfl
    have nbn : ¬ (fun k => (f x.2.1).ownBlock = some k) bn := fun h => by have := (fb _ _ h).1; omega
    refine ⟨fun k => (f x.2.1).ownBlock = some k, ?_⟩
    simp only [r_ln, r_pick, r_pickT, r_pickF, r_condT, r_condF, r_gdTT, r_gdFF, r_gdTF, r_gdFT, r_gqTT, r_gqFF, r_gqTF, r_gqFT, r_not, r_lss, r_leq, r_gtr, r_geq, r_eql, r_neq, r_add, r_sub, r_min2, r_max2, r_min3, r_max3, r_fa, r_iaS, r_iaA, r_ex2a, r_ex2b, r_ex3a, r_ex3b, r_ex3c, r_nc, r_keepE, Nat.zero_add, Nat.add_zero, Nat.mul_one, Int.toNat_natCast, toNat_sub1, toNat_add1, decide_true, decide_false, Bool.not_true, Bool.not_false, if_true, if_false, Bool.false_eq_true, reduceCtorEq, r_tx, r_txl (X := fun k => (f x.2.1).ownBlock = some k) c4' nb18]
    refine r_txG und75 zero30 hf1 ik1 nbn ?_
    simp only [r_ln, r_pick, r_pickT, r_pickF, r_condT, r_condF, r_gdTT, r_gdFF, r_gdTF, r_gdFT, r_gqTT, r_gqFF, r_gqTF, r_gqFT, r_not, r_lss, r_leq, r_gtr, r_geq, r_eql, r_neq, r_add, r_sub, r_min2, r_max2, r_min3, r_max3, r_fa, r_iaS, r_iaA, r_ex2a, r_ex2b, r_ex3a, r_ex3b, r_ex3c, r_nc, r_keepE, Nat.zero_add, Nat.add_zero, Nat.mul_one, Int.toNat_natCast, toNat_sub1, toNat_add1, decide_true, decide_false, Bool.not_true, Bool.not_false, if_true, if_false, Bool.false_eq_true, reduceCtorEq, r_tx, r_txl (X := fun k => (f x.2.1).ownBlock = some k) c5' nb18]
    rw [bs30]
    refine ⟨BX.of_below (below_alloc _), ?_⟩
    have y5 : Kp x4 (x4.alloc (.cells #[.int .i64 x.2.2.1] 3)) := below_alloc _
    have n5 := heap_alloc_new x4 (.cells #[.int .i64 x.2.2.1] 3)
    generalize x4.alloc (.cells #[.int .i64 x.2.2.1] 3) = x5 at *
    have sx5 := y5.size
    have hglen := grp_len (L.take q) x.2.1
    rw [List.length_take] at hglen
    dsimp only
    refine r_apAt (news := [.int .i64 x.2.2.1]) slt30 (owns_kp hfc y5) rfl (cells_at_row n5) (by intro u hu; simp at hu; subst hu; rfl) (by omega) (by omega) (by omega) fun v' x6 ho6 c6 hv6 => ?_
    refine ⟨BX.of_chg c6, ?_⟩
    have hm6 : MapF x6 bn nilS f := (hf1.kp y5).chg c6 nbn
    have hv6n : v' ≠ nilS := fun e => by
      rcases ho6.2 with ⟨_, h⟩ | ⟨g, cap, cur, h, _⟩
      · omega
      · rw [e] at h; cases h
    refine r_muF und75 zero30 hm6 ik1 hv6n fun x7 hm7 c7 s7 => ?_
    have s6 := c6.size
    have fne : ∀ c k, c ≠ x.2.1 → (f c).ownBlock = some k → (f x.2.1).ownBlock ≠ some k := fun c k hc hk h => hf3 c x.2.1 hc k hk h
    try simp (disch := omega) only [r_ln, r_pick, r_pickT, r_pickF, r_condT, r_condF, r_gdTT, r_gdFF, r_gdTF, r_gdFT, r_gqTT, r_gqFF, r_gqTF, r_gqFT, r_not, r_lss, r_leq, r_gtr, r_geq, r_eql, r_neq, r_add, r_sub, r_min2, r_max2, r_min3, r_max3, r_fa, r_iaS, r_iaA, r_ex2a, r_ex2b, r_ex3a, r_ex3b, r_ex3c, r_nc, r_keepE, Nat.zero_add, Nat.add_zero, Nat.mul_one, Int.toNat_natCast, toNat_sub1, toNat_add1, decide_true, decide_false, Bool.not_true, Bool.not_false, if_true, if_false, Bool.false_eq_true, reduceCtorEq]
    refine ⟨⟨q + 1, by omega, by go_num, fun y hy => ?_, ⟨_, hm7, fun c => ?_, fun c c' hcc k hk hk' => ?_⟩, ?_, ?_⟩, by simp only [intOf]; omega⟩
    · rw [List.take_add_one, hx] at hy
      rcases List.mem_append.1 hy with hy | hy
      · exact hdq y hy
      · simp at hy; rw [hy]; exact hd0
    · rw [grp_take hx]
      by_cases hc : c = x.2.1
      · subst hc
        rw [upd_same, if_pos rfl]
        have : IntsAt w6.heap.size x6 v' (grpL (L.take q) x.2.1 ++ [x.2.2.1]) := by
          unfold IntsAt RecAt
          rw [recCells_append, List.length_append]
          exact ho6
        refine this.chg c7 fun k hk e => ?_
        rcases hv6 k hk with h | h
        · have := (fb _ _ h).1; omega
        · omega
      · rw [upd_ne hc, if_neg (fun e => hc e.symm), List.append_nil]
        refine (((hf2 c).kp y5).chg c6 fun k hk e => fne c k hc hk e).chg c7 fun k hk e => ?_
        have := (fb _ _ hk).1; omega
    · by_cases hc : c = x.2.1
      · subst hc
        have hc' : c' ≠ x.2.1 := fun e => hcc e.symm
        rw [upd_same] at hk
        rw [upd_ne hc'] at hk'
        rcases hv6 k hk with h | h
        · exact fne c' k hc' hk' h
        · have := ((hf2 c').lt hk').2; omega
      · rw [upd_ne hc] at hk
        by_cases hc' : c' = x.2.1
        · subst hc'
          rw [upd_same] at hk'
          rcases hv6 k hk' with h | h
          · exact fne c k hc hk h
          · have := ((hf2 c).lt hk).2; omega
        · rw [upd_ne hc'] at hk'
          exact hf3 c c' hcc k hk hk'
    · have kq5 : Kp w5 x5 := Kp.trans kq (Kp.trans y04 y5)
      refine Kp.of_chg (Kp.of_chg kq5 c6 fun k e => ?_) c7 fun k e => by omega
      have := (fb _ _ e).1; omega
    · omega
  have hlt' : (i : Int) < (proof.length : Int) := by omega
  obtain ⟨pb, po, _, rv, ep, hcell, hrow⟩ := (hp.below kr).row hlt
  cases ep
  obtain ⟨ra, rc, rfl, hrl⟩ := hrow.len
  have out : ¬ (rowB W H (proof.getD i []) = true ∧ upB proof i = true) → RefPost l W H proof (.returned (.tuple #[.bool false, .int .i64 0])) := fun hb => by
    refine .inr (.inr ⟨he, by omega, false, rfl, ?_⟩)
    constructor
    · intro h; cases h
    · intro h; exact absurd (h.1 i hlt) hb
  generalize hpe : proof.getD i [] = p at *
  by_cases hpl2 : (p.length : Int) = (W : Int) + 1
  case neg =>
    simp (disch := omega) only [r_ln, r_pick, r_pickT, r_pickF, r_condT, r_condF, r_gdTT, r_gdFF, r_gdTF, r_gdFT, r_gqTT, r_gqFF, r_gqTF, r_gqFT, r_not, r_lss, r_leq, r_gtr, r_geq, r_eql, r_neq, r_add, r_sub, r_min2, r_max2, r_min3, r_max3, r_fa, r_iaS, r_iaA, r_ex2a, r_ex2b, r_ex3a, r_ex3b, r_ex3c, r_nc, r_keepE, Nat.zero_add, Nat.add_zero, Nat.mul_one, Int.toNat_natCast, toNat_sub1, toNat_add1, decide_true, decide_false, Bool.not_true, Bool.not_false, if_true, if_false, Bool.false_eq_true, reduceCtorEq, decide_eq_true hlt', r_ld hcell, hpl2]
    exact ⟨kr, out fun h => hpl2 (by have := h.1; simp only [rowB, Bool.and_eq_true, decide_eq_true_eq] at this; omega)⟩
  obtain ⟨rb, ro, _, er, hx0⟩ := hrow.at (j := 0) (by omega)
  cases er
  have i0 : (0 : Int).toNat = 0 := rfl
  rw [Nat.add_zero] at hx0
  by_cases hp1 : p.getD 0 0 < 1
  · simp (disch := omega) only [r_ln, r_pick, r_pickT, r_pickF, r_condT, r_condF, r_gdTT, r_gdFF, r_gdTF, r_gdFT, r_gqTT, r_gqFF, r_gqTF, r_gqFT, r_not, r_lss, r_leq, r_gtr, r_geq, r_eql, r_neq, r_add, r_sub, r_min2, r_max2, r_min3, r_max3, r_fa, r_iaS, r_iaA, r_ex2a, r_ex2b, r_ex3a, r_ex3b, r_ex3c, r_nc, r_keepE, Nat.zero_add, Nat.add_zero, Nat.mul_one, Int.toNat_natCast, toNat_sub1, toNat_add1, decide_true, decide_false, Bool.not_true, Bool.not_false, if_true, if_false, Bool.false_eq_true, reduceCtorEq, decide_eq_true hlt', r_ld hcell, decide_eq_true hpl2, i0, Nat.zero_mul, r_ld hx0, decide_eq_true hp1]
    exact ⟨kr, out fun h => by have := h.1; simp only [rowB, Bool.and_eq_true, decide_eq_true_eq] at this; omega⟩
  by_cases hp2 : (H : Int) ≤ p.getD 0 0
  · simp (disch := omega) only [r_ln, r_pick, r_pickT, r_pickF, r_condT, r_condF, r_gdTT, r_gdFF, r_gdTF, r_gdFT, r_gqTT, r_gqFF, r_gqTF, r_gqFT, r_not, r_lss, r_leq, r_gtr, r_geq, r_eql, r_neq, r_add, r_sub, r_min2, r_max2, r_min3, r_max3, r_fa, r_iaS, r_iaA, r_ex2a, r_ex2b, r_ex3a, r_ex3b, r_ex3c, r_nc, r_keepE, Nat.zero_add, Nat.add_zero, Nat.mul_one, Int.toNat_natCast, toNat_sub1, toNat_add1, decide_true, decide_false, Bool.not_true, Bool.not_false, if_true, if_false, Bool.false_eq_true, reduceCtorEq, decide_eq_true hlt', r_ld hcell, decide_eq_true hpl2, i0, Nat.zero_mul, r_ld hx0, hp1, decide_eq_true hp2]
    exact ⟨kr, out fun h => by have := h.1; simp only [rowB, Bool.and_eq_true, decide_eq_true_eq] at this; omega⟩
  have i1 : (1 : Int).toNat = 1 := rfl
  simp (disch := omega) only [r_ln, r_pick, r_pickT, r_pickF, r_condT, r_condF, r_gdTT, r_gdFF, r_gdTF, r_gdFT, r_gqTT, r_gqFF, r_gqTF, r_gqFT, r_not, r_lss, r_leq, r_gtr, r_geq, r_eql, r_neq, r_add, r_sub, r_min2, r_max2, r_min3, r_max3, r_fa, r_iaS, r_iaA, r_ex2a, r_ex2b, r_ex3a, r_ex3b, r_ex3c, r_nc, r_keepE, Nat.zero_add, Nat.add_zero, Nat.mul_one, Int.toNat_natCast, toNat_sub1, toNat_add1, decide_true, decide_false, Bool.not_true, Bool.not_false, if_true, if_false, Bool.false_eq_true, reduceCtorEq, decide_eq_true hlt', r_ld hcell, decide_eq_true hpl2, i0, Nat.zero_mul, r_ld hx0, hp1, hp2, r_slFrom, i1]
  have htail := rd_from (j := 1) hrow (by omega)
  rw [Nat.mul_one] at htail
  refine r_use fok54 (containsF_calls (fun x => !colB x) wr htail fun x _ w' K _ hK => nocol_call x w' K hK) rfl ?_
  rintro _ w5 ⟨rfl, k5⟩
  refine ⟨_, rfl, ?_⟩
  rw [any_not]
  have kr5 := Kp.trans kr k5
  cases hcol : (p.drop 1).all colB with
  | false =>
    simp (disch := omega) only [r_ln, r_pick, r_pickT, r_pickF, r_condT, r_condF, r_gdTT, r_gdFF, r_gdTF, r_gdFT, r_gqTT, r_gqFF, r_gqTF, r_gqFT, r_not, r_lss, r_leq, r_gtr, r_geq, r_eql, r_neq, r_add, r_sub, r_min2, r_max2, r_min3, r_max3, r_fa, r_iaS, r_iaA, r_ex2a, r_ex2b, r_ex3a, r_ex3b, r_ex3c, r_nc, r_keepE, Nat.zero_add, Nat.add_zero, Nat.mul_one, Int.toNat_natCast, toNat_sub1, toNat_add1, decide_true, decide_false, Bool.not_true, Bool.not_false, if_true, if_false, Bool.false_eq_true, reduceCtorEq]
    exact ⟨kr5, out fun h => by
      have := h.1
      simp only [rowB, Bool.and_eq_true, decide_eq_true_eq, hcol] at this
      exact absurd this.2 (by decide)⟩
  | true =>
  have hrowB : rowB W H p = true := by
    simp only [rowB, Bool.and_eq_true, decide_eq_true_eq, hcol]
    exact ⟨⟨⟨by omega, by omega⟩, by omega⟩, trivial⟩
  have hcols := all_cols hcol
  have hdl : (p.drop 1).length = W := by rw [List.length_drop]; omega
  have hrg := code_range hcols (by omega)
  have hkey : IKey (code (p.drop 1)) := ⟨by omega, by omega⟩
  have hdead : deadL (proof.take (i + 1)) = deadF (deadL (proof.take i)) p := by
    rw [take_succ' _ _ hlt, deadL, List.foldl_append, ← getD_lt proof i [] hlt, hpe]
    rfl
  simp (disch := omega) only [r_ln, r_pick, r_pickT, r_pickF, r_condT, r_condF, r_gdTT, r_gdFF, r_gdTF, r_gdFT, r_gqTT, r_gqFF, r_gqTF, r_gqFT, r_not, r_lss, r_leq, r_gtr, r_geq, r_eql, r_neq, r_add, r_sub, r_min2, r_max2, r_min3, r_max3, r_fa, r_iaS, r_iaA, r_ex2a, r_ex2b, r_ex3a, r_ex3b, r_ex3c, r_nc, r_keepE, Nat.zero_add, Nat.add_zero, Nat.mul_one, Int.toNat_natCast, toNat_sub1, toNat_add1, decide_true, decide_false, Bool.not_true, Bool.not_false, if_true, if_false, Bool.false_eq_true, reduceCtorEq]
  by_cases hup : upB proof i = true
  case neg =>
    have hi0 : 0 < i := by
      refine Nat.pos_of_ne_zero fun e => hup ?_
      simp [upB, e]
    have hi0' : (0 : Int) < (i : Int) := by omega
    have hcm : ¬ cmpL (proof.getD (i - 1) []) p < 0 := fun h => hup (by simp only [upB, hpe, Bool.or_eq_true, decide_eq_true_eq]; exact .inr h)
    obtain ⟨qb, qo, _, qv, eq, qcell, qrow⟩ := (hp.below kr5).row (i := i - 1) (by omega)
    cases eq
    simp (disch := omega) only [r_ln, r_pick, r_pickT, r_pickF, r_condT, r_condF, r_gdTT, r_gdFF, r_gdTF, r_gdFT, r_gqTT, r_gqFF, r_gqTF, r_gqFT, r_not, r_lss, r_leq, r_gtr, r_geq, r_eql, r_neq, r_add, r_sub, r_min2, r_max2, r_min3, r_max3, r_fa, r_iaS, r_iaA, r_ex2a, r_ex2b, r_ex3a, r_ex3b, r_ex3c, r_nc, r_keepE, Nat.zero_add, Nat.add_zero, Nat.mul_one, Int.toNat_natCast, toNat_sub1, toNat_add1, decide_true, decide_false, Bool.not_true, Bool.not_false, if_true, if_false, Bool.false_eq_true, reduceCtorEq, decide_eq_true hi0', r_ld qcell]
    refine r_use fok57 (compare_calls w5 qrow (hrow.below k5)) rfl ?_
    rintro _ _ ⟨rfl, rfl⟩
    refine ⟨_, rfl, ?_⟩
    have hcm' : 0 ≤ cmpL (proof.getD (i - 1) []) p := by omega
    simp (disch := omega) only [r_ln, r_pick, r_pickT, r_pickF, r_condT, r_condF, r_gdTT, r_gdFF, r_gdTF, r_gdFT, r_gqTT, r_gqFF, r_gqTF, r_gqFT, r_not, r_lss, r_leq, r_gtr, r_geq, r_eql, r_neq, r_add, r_sub, r_min2, r_max2, r_min3, r_max3, r_fa, r_iaS, r_iaA, r_ex2a, r_ex2b, r_ex3a, r_ex3b, r_ex3c, r_nc, r_keepE, Nat.zero_add, Nat.add_zero, Nat.mul_one, Int.toNat_natCast, toNat_sub1, toNat_add1, decide_true, decide_false, Bool.not_true, Bool.not_false, if_true, if_false, Bool.false_eq_true, reduceCtorEq, decide_eq_true hcm']
    exact ⟨kr5, out fun h => hup h.2⟩
  have nexti : ∀ (x : World) (d' : Int → Int), Kp w x → Kp w1 x → MapF x bm (iK 0) (fun c => iK (d' c)) → d' = deadL (proof.take (i + 1)) → x.heap[b11]? = some (.cells #[.map (some bm)] 68 (0, 0)) →
      ∃ i' : Nat, i' ≤ proof.length ∧ Value.int .i64 ((i : Int) + 1) = .int .i64 i' ∧ (∀ k, k < i' → rowB W H (proof.getD k []) = true ∧ upB proof k = true) ∧ MapF x bm (iK 0) (fun c => iK (deadL (proof.take i') c)) ∧ x.heap[b11]? = some (.cells #[.map (some bm)] 68 (0, 0)) ∧ Kp w x ∧ Kp w1 x := fun x d' q1 q2 q3 q4 q5 => by
    subst q4
    refine ⟨i + 1, by omega, by go_num, fun k hk => ?_, q3, q5, q1, q2⟩
    by_cases hki : k < i
    · exact hok k hki
    · have : k = i := by omega
      subst this
      exact ⟨by rw [hpe]; exact hrowB, hup⟩
  rcases Nat.eq_zero_or_pos i with hi0 | hi0
  have hi0' : ¬ (0 : Int) < (i : Int) := by omega
  simp (disch := omega) only [r_ln, r_pick, r_pickT, r_pickF, r_condT, r_condF, r_gdTT, r_gdFF, r_gdTF, r_gdFT, r_gqTT, r_gqFF, r_gqTF, r_gqFT, r_not, r_lss, r_leq, r_gtr, r_geq, r_eql, r_neq, r_add, r_sub, r_min2, r_max2, r_min3, r_max3, r_fa, r_iaS, r_iaA, r_ex2a, r_ex2b, r_ex3a, r_ex3b, r_ex3c, r_nc, r_keepE, Nat.zero_add, Nat.add_zero, Nat.mul_one, Int.toNat_natCast, toNat_sub1, toNat_add1, decide_true, decide_false, Bool.not_true, Bool.not_false, if_true, if_false, Bool.false_eq_true, reduceCtorEq, hi0', r_slFrom, i1]
  rotate_left
  have hi0' : (0 : Int) < (i : Int) := by omega
  have hcm : cmpL (proof.getD (i - 1) []) p < 0 := by
    simp only [upB, hpe, Bool.or_eq_true, decide_eq_true_eq] at hup
    rcases hup with h | h
    · omega
    · exact h
  obtain ⟨qb, qo, _, qv, eq, qcell, qrow⟩ := (hp.below kr5).row (i := i - 1) (by omega)
  cases eq
  simp (disch := omega) only [r_ln, r_pick, r_pickT, r_pickF, r_condT, r_condF, r_gdTT, r_gdFF, r_gdTF, r_gdFT, r_gqTT, r_gqFF, r_gqTF, r_gqFT, r_not, r_lss, r_leq, r_gtr, r_geq, r_eql, r_neq, r_add, r_sub, r_min2, r_max2, r_min3, r_max3, r_fa, r_iaS, r_iaA, r_ex2a, r_ex2b, r_ex3a, r_ex3b, r_ex3c, r_nc, r_keepE, Nat.zero_add, Nat.add_zero, Nat.mul_one, Int.toNat_natCast, toNat_sub1, toNat_add1, decide_true, decide_false, Bool.not_true, Bool.not_false, if_true, if_false, Bool.false_eq_true, reduceCtorEq, decide_eq_true hi0', r_ld qcell]
  refine r_use fok57 (compare_calls w5 qrow (hrow.below k5)) rfl ?_
  rintro _ _ ⟨rfl, rfl⟩
  refine ⟨_, rfl, ?_⟩
  have hcm' : ¬ 0 ≤ cmpL (proof.getD (i - 1) []) p := by omega
  simp (disch := omega) only [r_ln, r_pick, r_pickT, r_pickF, r_condT, r_condF, r_gdTT, r_gdFF, r_gdTF, r_gdFT, r_gqTT, r_gqFF, r_gqTF, r_gqFT, r_not, r_lss, r_leq, r_gtr, r_geq, r_eql, r_neq, r_add, r_sub, r_min2, r_max2, r_min3, r_max3, r_fa, r_iaS, r_iaA, r_ex2a, r_ex2b, r_ex3a, r_ex3b, r_ex3c, r_nc, r_keepE, Nat.zero_add, Nat.add_zero, Nat.mul_one, Int.toNat_natCast, toNat_sub1, toNat_add1, decide_true, decide_false, Bool.not_true, Bool.not_false, if_true, if_false, Bool.false_eq_true, reduceCtorEq, hcm', r_slFrom, i1]
  rotate_left
  all_goals
    refine r_use fok58 (number_calls w5 (htail.below k5) hcols (by omega)) rfl ?_
    rintro _ _ ⟨rfl, rfl⟩
    refine ⟨_, rfl, ?_⟩
    have m5 := hmr.kp k5
    have h115 := block_below h11 k5
    have kr15 := Kp.trans kr1 k5
    have c11 : w5.cell? ⟨b11, 0, none⟩ = some (.map (some bm)) := by rw [cell_row h115]; rfl
    rw [r_ld c11, r_lkF und68 zero3 m5 hkey, r_eql]
    refine r_join0 (fun x => ∃ d', Kp w x ∧ Kp w1 x ∧ MapF x bm (iK 0) (fun c => iK (d' c)) ∧ d' = deadL (proof.take (i + 1)) ∧ x.heap[b11]? = some (.cells #[.map (some bm)] 68 (0, 0))) ?_ ?_
    · rintro x ⟨d', q1, q2, q3, q4, q5⟩
      try simp (disch := omega) only [r_ln, r_pick, r_pickT, r_pickF, r_condT, r_condF, r_gdTT, r_gdFF, r_gdTF, r_gdFT, r_gqTT, r_gqFF, r_gqTF, r_gqFT, r_not, r_lss, r_leq, r_gtr, r_geq, r_eql, r_neq, r_add, r_sub, r_min2, r_max2, r_min3, r_max3, r_fa, r_iaS, r_iaA, r_ex2a, r_ex2b, r_ex3a, r_ex3b, r_ex3c, r_nc, r_keepE, Nat.zero_add, Nat.add_zero, Nat.mul_one, Int.toNat_natCast, toNat_sub1, toNat_add1, decide_true, decide_false, Bool.not_true, Bool.not_false, if_true, if_false, Bool.false_eq_true, reduceCtorEq]
      exact ⟨nexti x d' q1 q2 q3 q4 q5, by simp only [intOf]; omega⟩
    intro kk hkk
    by_cases hd0 : deadL (proof.take i) (code (p.drop 1)) = 0
    · simp (disch := omega) only [r_ln, r_pick, r_pickT, r_pickF, r_condT, r_condF, r_gdTT, r_gdFF, r_gdTF, r_gdFT, r_gqTT, r_gqFF, r_gqTF, r_gqFT, r_not, r_lss, r_leq, r_gtr, r_geq, r_eql, r_neq, r_add, r_sub, r_min2, r_max2, r_min3, r_max3, r_fa, r_iaS, r_iaA, r_ex2a, r_ex2b, r_ex3a, r_ex3b, r_ex3c, r_nc, r_keepE, Nat.zero_add, Nat.add_zero, Nat.mul_one, Int.toNat_natCast, toNat_sub1, toNat_add1, decide_true, decide_false, Bool.not_true, Bool.not_false, if_true, if_false, Bool.false_eq_true, reduceCtorEq, decide_eq_true hd0]
      refine r_drew fun w7 k7 _ => ?_
      have c117 : w7.cell? ⟨b11, 0, none⟩ = some (.map (some bm)) := cell_later k7 c11
      have hx07 := cell_later (Kp.trans k5 k7) hx0
      simp (disch := omega) only [r_ln, r_pick, r_pickT, r_pickF, r_condT, r_condF, r_gdTT, r_gdFF, r_gdTF, r_gdFT, r_gqTT, r_gqFF, r_gqTF, r_gqFT, r_not, r_lss, r_leq, r_gtr, r_geq, r_eql, r_neq, r_add, r_sub, r_min2, r_max2, r_min3, r_max3, r_fa, r_iaS, r_iaA, r_ex2a, r_ex2b, r_ex3a, r_ex3b, r_ex3c, r_nc, r_keepE, Nat.zero_add, Nat.add_zero, Nat.mul_one, Int.toNat_natCast, toNat_sub1, toNat_add1, decide_true, decide_false, Bool.not_true, Bool.not_false, if_true, if_false, Bool.false_eq_true, reduceCtorEq, r_ld c117, i0, Nat.zero_mul, r_ld hx07]
      refine r_muF und68 zero3 (m5.kp k7) hkey (fun e => by have := iK_inj e; omega) fun w8 m8 c8 s8 => ?_
      have sbm := m5.lt
      refine hkk w8 ⟨upd (deadL (proof.take i)) (code (p.drop 1)) (p.getD 0 0), Kp.of_chg (Kp.trans kr5 k7) c8 fun k e => by omega, Kp.of_chg (Kp.trans kr15 k7) c8 fun k e => by omega, ?_, ?_, c8.at (block_below h115 k7) (by omega)⟩
      · have e : (fun c => iK (upd (deadL (proof.take i)) (code (p.drop 1)) (p.getD 0 0) c)) = upd (fun c => iK (deadL (proof.take i) c)) (code (p.drop 1)) (iK (p.getD 0 0)) := by
          funext c
          simp only [upd]
          split <;> rfl
        rw [e]
        exact m8
      · rw [hdead, deadF, if_pos hd0]
    · simp (disch := omega) only [r_ln, r_pick, r_pickT, r_pickF, r_condT, r_condF, r_gdTT, r_gdFF, r_gdTF, r_gdFT, r_gqTT, r_gqFF, r_gqTF, r_gqFT, r_not, r_lss, r_leq, r_gtr, r_geq, r_eql, r_neq, r_add, r_sub, r_min2, r_max2, r_min3, r_max3, r_fa, r_iaS, r_iaA, r_ex2a, r_ex2b, r_ex3a, r_ex3b, r_ex3c, r_nc, r_keepE, Nat.zero_add, Nat.add_zero, Nat.mul_one, Int.toNat_natCast, toNat_sub1, toNat_add1, decide_true, decide_false, Bool.not_true, Bool.not_false, if_true, if_false, Bool.false_eq_true, reduceCtorEq, hd0]
      exact hkk w5 ⟨deadL (proof.take i), kr5, kr15, m5, by rw [hdead, deadF, if_neg hd0], h115⟩

end Go.Proofs.Ytgalbokmgffhkaa

/- Lifted texts, printed by program (gen.py): what each function's code asks. The ties are by the kernel. -/
namespace Go.Proofs.Ytgalbokmgffhkaa
open Go.Lf Go.RowKit

def S10 (t0 t1 t2 : Value) (w : World) (R : Ending → World → Prop) : Prop :=
  boxW 51 t0 w fun t3 w =>
  fa1 t3 1 fun t18 =>
  ld1 w t18 fun t19 =>
  ln1 t19 fun t20 =>
  binQ Try.prog w .gtr 3 true t20 (.int .i64 20) fun t21 =>
  gd t21 false (fun k => k t1 w) w fun t23 w =>
  gd t21 false (fun k => ln1 t23 fun v => k v w) w fun t24 w =>
  gd t21 false (fun k => binQ Try.prog w .gtr 3 true t24 (.int .i64 20) fun v => k v w) w fun t25 w =>
  pickQ t21 (.bool true) t25 fun t26 =>
  condW t26 (
    callW Try.prog (.func (.func 18) #[] #[]) [] w fun t27 w =>
    R (.returned t27) w
  ) (
    bsW Try.prog 30 0 [] w fun t28 w =>
    semW Try.prog (apS [30, 30] 30 [t28, t1]) w fun t30 w =>
    ldN 2 w t3 fun t32 =>
    callW Try.prog (.func (.func 39) #[] #[]) [t32] w fun t33 w =>
    exQ t33 0 fun t34 =>
    exQ t33 1 fun t35 =>
    ldN 2 w t3 fun t37 =>
    callW Try.prog (.func (.func 40) #[] #[]) [t37] w fun t38 w =>
    exQ t38 0 fun t39 =>
    exQ t38 1 fun t40 =>
    binQ Try.prog w .neq 26 false t35 t40 fun t43 =>
    gd t43 false (fun k => k t34 w) w fun t45 w =>
    gd t43 false (fun k => k t39 w) w fun t46 w =>
    gd t43 false (fun k => callW Try.prog (.func (.func 30) #[] #[]) [t45, t46] w k) w fun t47 w =>
    gd t43 false (fun k => unQ .not t47 fun v => k v w) w fun t48 w =>
    pickQ t43 (.bool true) t48 fun t49 =>
    condW t49 (
      R (.returned (.bool false)) w
    ) (
      ldN 2 w t3 fun t51 =>
      callW Try.prog (.func (.func 41) #[] #[]) [t51, t30, t2] w fun t54 w =>
      exQ t54 0 fun t55 =>
      exQ t54 1 fun t56 =>
      exQ t54 2 fun t57 =>
      exQ t54 3 fun t58 =>
      ldN 2 w t3 fun t60 =>
      callW Try.prog (.func (.func 42) #[] #[]) [t60, t1, t2] w fun t63 w =>
      exQ t63 0 fun t64 =>
      exQ t63 1 fun t65 =>
      exQ t63 2 fun t66 =>
      exQ t63 3 fun t67 =>
      binQ Try.prog w .eql 26 false t58 t67 fun t70 =>
      gd t70 true (fun k => k t55 w) w fun t72 w =>
      gd t70 true (fun k => k t64 w) w fun t73 w =>
      gd t70 true (fun k => callW Try.prog (.func (.func 43) #[] #[]) [t72, t73] w k) w fun t74 w =>
      pickQ t70 t74 (.bool false) fun t75 =>
      gd t75 true (fun k => k t56 w) w fun t77 w =>
      gd t75 true (fun k => k t65 w) w fun t78 w =>
      gd t75 true (fun k => binQ Try.prog w .eql 3 false t77 t78 fun v => k v w) w fun t79 w =>
      pickQ t75 t79 (.bool false) fun t80 =>
      gd t80 true (fun k => k t57 w) w fun t82 w =>
      gd t80 true (fun k => k t66 w) w fun t83 w =>
      gd t80 true (fun k => binQ Try.prog w .eql 3 false t82 t83 fun v => k v w) w fun t84 w =>
      pickQ t80 t84 (.bool false) fun t85 =>
      gd t85 true (fun k => k t30 w) w fun t87 w =>
      gd t85 true (fun k => k t1 w) w fun t88 w =>
      gd t85 true (fun k => callW Try.prog (.func (.func 43) #[] #[]) [t87, t88] w k) w fun t89 w =>
      pickQ t85 t89 (.bool false) fun t90 =>
      gd t90 true (fun k => callW Try.prog (.func (.func 18) #[] #[]) [] w k) w fun t92 w =>
      pickQ t90 t92 (.bool false) fun t93 =>
      R (.returned t93) w
    )
  )

def A10 : Ann where
  live := fun _ => []
  wr := fun _ _ => false
  sched := fun _ => .done

set_option maxRecDepth 100000 in
theorem ok10 : (codeOk Try.f10.ntmps A10 (Try.f10.body.getD .skip) 0 && Nat.ble 3 Try.f10.ntmps) = true := by kernel_rfl
set_option maxRecDepth 100000 in
theorem lift10 {t0 t1 t2 : Value} {w : World} {R : Ending → World → Prop} (h : S10 t0 t1 t2 w R) : Calls Try.prog 10 #[t0, t1, t2] w R :=
  calls_of_cw (fn := Try.f10) (c := Try.f10.body.getD .skip) A10 mixes Try.func10 (by kernel_rfl) ok10
    ((by kernel_rfl : (S10 t0 t1 t2 w R) = cw Try.prog A10 (Try.f10.body.getD .skip) 0 (bodyQ Try.prog Try.f10 R) (frOf #[t0, t1, t2]) w).mp h)

def S30 (t0 t1 : Value) (w : World) (R : Ending → World → Prop) : Prop :=
  ln1 t0 fun t7 =>
  ln1 t1 fun t9 =>
  binQ Try.prog w .neq 3 false t7 t9 fun t10 =>
  condW t10 (
    R (.returned (.bool false)) w
  ) (
    Loop1 (.int .i64 0) w fun _ t5 w next =>
      ln1 t0 fun t13 =>
      binQ Try.prog w .lss 3 false t5 t13 fun t14 =>
      condW t14 (
        Drew w fun w =>
        iaS 4 t0 t5 fun t19 =>
        ldN 4 w t19 fun t20 =>
        iaS 4 t1 t5 fun t23 =>
        ldN 4 w t23 fun t24 =>
        binQ Try.prog w .neq 32 false t20 t24 fun t25 =>
        condW t25 (
          R (.returned (.bool false)) w
        ) (
          binQ Try.prog w .add 3 true t5 (.int .i64 1) fun t16 =>
          next t16 w
        )
      ) (
        R (.returned (.bool true)) w
      )
  )

def A30 : Ann where
  live := fun
    | 0 => [5]
    | _ => []
  wr := fun
    | 0 => fun i => (Nat.ble 4 i && Nat.ble i 5) || (Nat.ble 11 i && Nat.ble i 25)
    | _ => fun _ => false
  sched := fun
    | 6 => (.take 0 (.take 1 (.take 2 (.take 3 (.take 4 (.take 5 (.take 6 (.take 7 (.take 8 .done)))))))))
    | _ => .done

set_option maxRecDepth 100000 in
theorem ok30 : (codeOk Try.f30.ntmps A30 (Try.f30.body.getD .skip) 0 && Nat.ble 2 Try.f30.ntmps) = true := by kernel_rfl
set_option maxRecDepth 100000 in
theorem lift30 {t0 t1 : Value} {w : World} {R : Ending → World → Prop} (h : S30 t0 t1 w R) : Calls Try.prog 30 #[t0, t1] w R :=
  calls_of_cw (fn := Try.f30) (c := Try.f30.body.getD .skip) A30 mixes Try.func30 (by kernel_rfl) ok30
    ((by kernel_rfl : (S30 t0 t1 w R) = cw Try.prog A30 (Try.f30.body.getD .skip) 0 (bodyQ Try.prog Try.f30 R) (frOf #[t0, t1]) w).mp h)

def S39L2 (t1 t4_2 t28 t32 : Value) (next_2 : Value → Value → World → Prop) (w : World) : Prop :=
  Loop2 t4_2 (.int .i64 0) w fun _ t4_3 t33 w next_3 =>
    binQ Try.prog w .lss 3 false t33 t32 fun t34 =>
    condW t34 (
      callW Try.prog (.func (.func 90) #[] #[]) [t33, t28] w fun t41 w =>
      callW Try.prog (.func (.func 91) #[] #[]) [t33] w fun t44 w =>
      bdQ Try.prog 32 [(0, t28), (2, t41), (3, t44)] fun t45 =>
      callW Try.prog (.func (.func 92) #[] #[t1]) [t33] w fun t49 w =>
      callW Try.prog (.func (.func 90) #[] #[]) [t33, t28] w fun t53 w =>
      bdQ Try.prog 32 [(0, t28), (1, t49), (2, t53)] fun t54 =>
      bsW Try.prog 22 2 [(0, t45), (1, t54)] w fun t55 w =>
      semW Try.prog (apS [22, 22] 22 [t4_3, t55]) w fun t56 w =>
      binQ Try.prog w .add 3 true t33 (.int .i64 1) fun t57 =>
      next_3 t56 t57 w
    ) (
      binQ Try.prog w .add 3 true t28 (.int .i64 1) fun t58 =>
      next_2 t4_3 t58 w
    )

def S39L4 (t1 t4_4 t61 : Value) (next_4 : Value → Value → World → Prop) (w : World) : Prop :=
  Loop2 t4_4 (.int .i64 0) w fun _ t4_5 t64 w next_5 =>
    binQ Try.prog w .lss 3 true t64 (.int .i64 2) fun t65 =>
    condW t65 (
      fa1 t1 1 fun t67 =>
      ld1 w t67 fun t68 =>
      binQ Try.prog w .mul 3 true (.int .i64 2) t61 fun t70 =>
      binQ Try.prog w .add 3 false t70 t64 fun t72 =>
      iaS 3 t68 t72 fun t73 =>
      ldN 3 w t73 fun t74 =>
      boxW 102 (.agg #[(.int .i64 0), (.bool false), (.int .i64 0)]) w fun t13 w =>
      stW Try.prog 102 t13 t74 w fun w =>
      fa1 t13 2 fun t90 =>
      ld1 w t90 fun t91 =>
      binQ Try.prog w .lss 3 true t91 (.int .i64 0) fun t92 =>
      Join (fun (k_2 : Value → World → Prop) =>
        condW t92 (
          k_2 t4_5 w
        ) (
          fa1 t13 1 fun t94 =>
          ld1 w t94 fun t95 =>
          condW t95 (
            Drew w fun w =>
            fa1 t13 2 fun t102 =>
            ld1 w t102 fun t103 =>
            fa1 t13 0 fun t105 =>
            ld1 w t105 fun t106 =>
            callW Try.prog (.func (.func 90) #[] #[]) [t61, t64] w <| keepB w fun t100 w =>
            callW Try.prog (.func (.func 91) #[] #[]) [t103] w <| keepB w fun t104 w =>
            bdQ Try.prog 32 [(0, t100), (1, t104), (2, t106)] fun t107 =>
            bsW Try.prog 22 1 [(0, t107)] w <| keepB w fun t108 w =>
            semW Try.prog (apS [22, 22] 22 [t4_5, t108]) w fun t109 w =>
            k_2 t109 w
          ) (
            Drew w fun w =>
            fa1 t13 0 fun t80 =>
            ld1 w t80 fun t81 =>
            fa1 t13 2 fun t83 =>
            ld1 w t83 fun t84 =>
            callW Try.prog (.func (.func 90) #[] #[]) [t61, t64] w <| keepB w fun t79 w =>
            callW Try.prog (.func (.func 92) #[] #[t1]) [t84] w <| keepB w fun t85 w =>
            bdQ Try.prog 32 [(0, t79), (2, t81), (3, t85)] fun t86 =>
            bsW Try.prog 22 1 [(0, t86)] w <| keepB w fun t87 w =>
            semW Try.prog (apS [22, 22] 22 [t4_5, t87]) w fun t88 w =>
            k_2 t88 w
          )
        )
      ) fun t4_6 w =>
      binQ Try.prog w .add 3 true t64 (.int .i64 1) fun t110_2 =>
      next_5 t4_6 t110_2 w
    ) (
      binQ Try.prog w .add 3 true t61 (.int .i64 1) fun t111 =>
      next_4 t4_5 t111 w
    )

def S39L3 (t1 t4_2 t60 : Value) (R : Ending → World → Prop) (w : World) : Prop :=
  Loop2 t4_2 (.int .i64 0) w fun _ t4_4 t61 w next_4 =>
    binQ Try.prog w .lss 3 false t61 t60 fun t62 =>
    condW t62 (
      S39L4 t1 t4_4 t61 next_4 w
    ) (
      R (.returned (.tuple #[t4_4, (.int .i64 0)])) w
    )

def S39L1 (t1 t4 : Value) (R : Ending → World → Prop) (w : World) : Prop :=
  Loop2 t4 (.int .i64 0) w fun _ t4_2 t28 w next_2 =>
    binQ Try.prog w .lss 3 true t28 (.int .i64 2) fun t29 =>
    condW t29 (
      fa1 t1 0 fun t31 =>
      ld1 w t31 fun t32 =>
      S39L2 t1 t4_2 t28 t32 next_2 w
    ) (
      fa1 t1 0 fun t59 =>
      ld1 w t59 fun t60 =>
      S39L3 t1 t4_2 t60 R w
    )

def S39L0 (t1 : Value) (R : Ending → World → Prop) (w : World) : Prop :=
  Loop2 (.slice none 0 0) (.int .i64 0) w fun _ t4 t17 w next =>
    binQ Try.prog w .lss 3 true t17 (.int .i64 2) fun t18 =>
    condW t18 (
      bdQ Try.prog 32 [(0, t17), (2, t17)] fun t23 =>
      bsW Try.prog 22 1 [(0, t23)] w fun t24 w =>
      semW Try.prog (apS [22, 22] 22 [t4, t24]) w fun t25 w =>
      binQ Try.prog w .add 3 true t17 (.int .i64 1) fun t26 =>
      next t25 t26 w
    ) (
      S39L1 t1 t4 R w
    )

def S39 (t0 : Value) (w : World) (R : Ending → World → Prop) : Prop :=
  boxW 51 t0 w fun t1 w =>
  ldN 2 w t1 fun t14 =>
  callW Try.prog (.func (.func 89) #[] #[]) [t14] w fun t15 w =>
  unQ .not t15 fun t16 =>
  condW t16 (
    R (.returned (.tuple #[(.slice none 0 0), (.int .i64 2)])) w
  ) (
    S39L0 t1 R w
  )

def A39 : Ann where
  live := fun
    | 0 => [4, 17]
    | 2 => [4, 28]
    | 4 => [4, 33]
    | 6 => [4, 61]
    | 8 => [4, 64]
    | _ => []
  wr := fun
    | 0 => fun i => (Nat.ble 4 i && Nat.ble i 5) || (Nat.ble 17 i && Nat.ble i 26)
    | 2 => fun i => Nat.beq i 4 || (Nat.ble 9 i && Nat.ble i 10) || (Nat.ble 28 i && Nat.ble i 58)
    | 4 => fun i => Nat.beq i 4 || Nat.beq i 10 || (Nat.ble 33 i && Nat.ble i 57)
    | 6 => fun i => Nat.beq i 4 || (Nat.ble 11 i && Nat.ble i 13) || (Nat.ble 61 i && Nat.ble i 111)
    | 8 => fun i => Nat.beq i 4 || (Nat.ble 12 i && Nat.ble i 13) || (Nat.ble 64 i && Nat.ble i 110)
    | _ => fun _ => false
  sched := fun
    | 28 => (.take 0 (.take 1 (.take 2 (.take 3 (.take 5 (.take 6 (.take 7 (.take 8 (.take 9 (.eff 4 (.eff 10 (.take 11 (.eff 12 (.bar 13 (.take 14 .done)))))))))))))))
    | 31 => (.take 0 (.take 1 (.take 2 (.take 3 (.take 5 (.take 6 (.take 7 (.take 9 (.take 10 (.eff 4 (.eff 8 (.take 11 (.eff 12 (.bar 13 (.take 14 .done)))))))))))))))
    | _ => .done

set_option maxRecDepth 100000 in
theorem ok39 : (codeOk Try.f39.ntmps A39 (Try.f39.body.getD .skip) 0 && Nat.ble 1 Try.f39.ntmps) = true := by kernel_rfl
set_option maxRecDepth 100000 in
theorem lift39 {t0 : Value} {w : World} {R : Ending → World → Prop} (h : S39 t0 w R) : Calls Try.prog 39 #[t0] w R :=
  calls_of_cw (fn := Try.f39) (c := Try.f39.body.getD .skip) A39 mixes Try.func39 (by kernel_rfl) ok39
    ((by kernel_rfl : (S39 t0 w R) = cw Try.prog A39 (Try.f39.body.getD .skip) 0 (bodyQ Try.prog Try.f39 R) (frOf #[t0]) w).mp h)

def S40L2 (t1 t4_2 t6 : Value) (next_2 : Value → Value → World → Prop) (w : World) : Prop :=
  Loop2 t4_2 (.int .i64 0) w fun _ t4_3 t7 w next_3 =>
    fa1 t1 0 fun t30 =>
    ld1 w t30 fun t31 =>
    binQ Try.prog w .lss 3 false t7 t31 fun t32 =>
    condW t32 (
      binQ Try.prog w .mul 3 true (.int .i64 2) t7 fun t38 =>
      binQ Try.prog w .add 3 true (.int .i64 2) t38 fun t39 =>
      binQ Try.prog w .add 3 false t39 t6 fun t41 =>
      binQ Try.prog w .add 3 true (.int .i64 1) t7 fun t43 =>
      bdQ Try.prog 32 [(0, t6), (2, t41), (3, t43)] fun t44 =>
      bsW Try.prog 22 1 [(0, t44)] w fun t45 w =>
      semW Try.prog (apS [22, 22] 22 [t4_3, t45]) w fun t46 w =>
      binQ Try.prog w .mul 3 true (.int .i64 2) t7 fun t50 =>
      binQ Try.prog w .add 3 true (.int .i64 2) t50 fun t51 =>
      binQ Try.prog w .add 3 false t51 t6 fun t53 =>
      fa1 t1 0 fun t54 =>
      ld1 w t54 fun t55 =>
      binQ Try.prog w .add 3 true (.int .i64 1) t55 fun t56 =>
      binQ Try.prog w .add 3 false t56 t7 fun t58 =>
      bdQ Try.prog 32 [(0, t6), (2, t53), (1, t58)] fun t59 =>
      bsW Try.prog 22 1 [(0, t59)] w fun t60 w =>
      semW Try.prog (apS [22, 22] 22 [t46, t60]) w fun t61 w =>
      binQ Try.prog w .add 3 true t7 (.int .i64 1) fun t34 =>
      next_3 t61 t34 w
    ) (
      binQ Try.prog w .add 3 true t6 (.int .i64 1) fun t28 =>
      next_2 t4_3 t28 w
    )

def S40L4 (t1 t4_4 t8 : Value) (next_4 : Value → Value → World → Prop) (w : World) : Prop :=
  Loop2 t4_4 (.int .i64 0) w fun _ t4_5 t9 w next_5 =>
    binQ Try.prog w .lss 3 true t9 (.int .i64 2) fun t69 =>
    condW t69 (
      Join (fun (k_2 : Value → World → Prop) =>
        fa1 t1 1 fun t72 =>
        ld1 w t72 fun t73 =>
        binQ Try.prog w .mul 3 true (.int .i64 2) t8 fun t75 =>
        binQ Try.prog w .add 3 false t75 t9 fun t77 =>
        iaS 3 t73 t77 fun t78 =>
        ldN 3 w t78 fun t79 =>
        boxW 102 (.agg #[(.int .i64 0), (.bool false), (.int .i64 0)]) w fun t10 w =>
        stW Try.prog 102 t10 t79 w fun w =>
        binQ Try.prog w .mul 3 true (.int .i64 2) t8 fun t81 =>
        binQ Try.prog w .add 3 true (.int .i64 2) t81 fun t82 =>
        binQ Try.prog w .add 3 false t82 t9 fun t84 =>
        fa1 t10 0 fun t85 =>
        ld1 w t85 fun t86 =>
        bdQ Try.prog 32 [(0, t84), (2, t86)] fun t87 =>
        boxW 32 (.agg #[(.int .i64 0), (.int .i64 0), (.int .i64 0), (.int .i64 0)]) w fun t11 w =>
        stW Try.prog 32 t11 t87 w fun w =>
        fa1 t10 2 fun t88 =>
        ld1 w t88 fun t89 =>
        binQ Try.prog w .lss 3 true t89 (.int .i64 0) fun t90 =>
        condW t90 (
          k_2 t4_5 w
        ) (
          fa1 t10 1 fun t91 =>
          ld1 w t91 fun t92 =>
          Join (fun (k_3 : World → Prop) =>
            condW t92 (
              fa1 t10 2 fun t93 =>
              ld1 w t93 fun t94 =>
              binQ Try.prog w .add 3 true (.int .i64 1) t94 fun t95 =>
              fa1 t11 1 fun t96 =>
              stW Try.prog 3 t96 t95 w fun w =>
              k_3 w
            ) (
              fa1 t1 0 fun t97 =>
              ld1 w t97 fun t98 =>
              binQ Try.prog w .add 3 true (.int .i64 1) t98 fun t99 =>
              fa1 t10 2 fun t100 =>
              ld1 w t100 fun t101 =>
              binQ Try.prog w .add 3 false t99 t101 fun t102 =>
              fa1 t11 3 fun t103 =>
              stW Try.prog 3 t103 t102 w fun w =>
              k_3 w
            )
          ) fun w =>
          ldN 4 w t11 fun t105_2 =>
          bsW Try.prog 22 1 [(0, t105_2)] w fun t106_2 w =>
          semW Try.prog (apS [22, 22] 22 [t4_5, t106_2]) w fun t107_2 w =>
          k_2 t107_2 w
        )
      ) fun t4_6 w =>
      binQ Try.prog w .add 3 true t9 (.int .i64 1) fun t71_2 =>
      next_5 t4_6 t71_2 w
    ) (
      binQ Try.prog w .add 3 true t8 (.int .i64 1) fun t67 =>
      next_4 t4_5 t67 w
    )

def S40L3 (t1 t4_2 : Value) (R : Ending → World → Prop) (w : World) : Prop :=
  Loop2 t4_2 (.int .i64 0) w fun _ t4_4 t8 w next_4 =>
    fa1 t1 0 fun t63 =>
    ld1 w t63 fun t64 =>
    binQ Try.prog w .lss 3 false t8 t64 fun t65 =>
    condW t65 (
      S40L4 t1 t4_4 t8 next_4 w
    ) (
      R (.returned (.tuple #[t4_4, (.int .i64 0)])) w
    )

def S40L1 (t1 t4 : Value) (R : Ending → World → Prop) (w : World) : Prop :=
  Loop2 t4 (.int .i64 0) w fun _ t4_2 t6 w next_2 =>
    binQ Try.prog w .lss 3 true t6 (.int .i64 2) fun t26 =>
    condW t26 (
      S40L2 t1 t4_2 t6 next_2 w
    ) (
      S40L3 t1 t4_2 R w
    )

def S40L0 (t1 : Value) (R : Ending → World → Prop) (w : World) : Prop :=
  Loop2 (.slice none 0 0) (.int .i64 0) w fun _ t4 t5 w next =>
    binQ Try.prog w .lss 3 true t5 (.int .i64 2) fun t16 =>
    condW t16 (
      bdQ Try.prog 32 [(0, t5), (2, t5)] fun t22 =>
      bsW Try.prog 22 1 [(0, t22)] w fun t23 w =>
      semW Try.prog (apS [22, 22] 22 [t4, t23]) w fun t24 w =>
      binQ Try.prog w .add 3 true t5 (.int .i64 1) fun t18 =>
      next t24 t18 w
    ) (
      S40L1 t1 t4 R w
    )

def S40 (t0 : Value) (w : World) (R : Ending → World → Prop) : Prop :=
  boxW 51 t0 w fun t1 w =>
  ldN 2 w t1 fun t12 =>
  callW Try.prog (.func (.func 93) #[] #[]) [t12] w fun t13 w =>
  unQ .not t13 fun t14 =>
  condW t14 (
    R (.returned (.tuple #[(.slice none 0 0), (.int .i64 2)])) w
  ) (
    S40L0 t1 R w
  )

def A40 : Ann where
  live := fun
    | 0 => [4, 5]
    | 2 => [4, 6]
    | 4 => [4, 7]
    | 6 => [4, 8]
    | 8 => [4, 9]
    | _ => []
  wr := fun
    | 0 => fun i => (Nat.ble 4 i && Nat.ble i 5) || (Nat.ble 15 i && Nat.ble i 24)
    | 2 => fun i => Nat.beq i 4 || (Nat.ble 6 i && Nat.ble i 7) || (Nat.ble 25 i && Nat.ble i 61)
    | 4 => fun i => Nat.beq i 4 || Nat.beq i 7 || (Nat.ble 29 i && Nat.ble i 61)
    | 6 => fun i => Nat.beq i 4 || (Nat.ble 8 i && Nat.ble i 11) || (Nat.ble 62 i && Nat.ble i 107)
    | 8 => fun i => Nat.beq i 4 || (Nat.ble 9 i && Nat.ble i 11) || (Nat.ble 68 i && Nat.ble i 107)
    | _ => fun _ => false
  sched := fun _ => .done

set_option maxRecDepth 100000 in
theorem ok40 : (codeOk Try.f40.ntmps A40 (Try.f40.body.getD .skip) 0 && Nat.ble 1 Try.f40.ntmps) = true := by kernel_rfl
set_option maxRecDepth 100000 in
theorem lift40 {t0 : Value} {w : World} {R : Ending → World → Prop} (h : S40 t0 w R) : Calls Try.prog 40 #[t0] w R :=
  calls_of_cw (fn := Try.f40) (c := Try.f40.body.getD .skip) A40 mixes Try.func40 (by kernel_rfl) ok40
    ((by kernel_rfl : (S40 t0 w R) = cw Try.prog A40 (Try.f40.body.getD .skip) 0 (bodyQ Try.prog Try.f40 R) (frOf #[t0]) w).mp h)

def S41L0 (t2 t3 t38 : Value) (R : Ending → World → Prop) (w : World) : Prop :=
  Loop3 (.int .i64 0) (.int .i64 0) (.int .i64 0) w fun _ t12 t13 t40 w next =>
    binQ Try.prog w .lss 3 false t40 t2 fun t41 =>
    condW t41 (
      binQ Try.prog w .lss 3 true t13 (.int .i64 0) fun t43 =>
      gd t43 false (fun k => k t12 w) w fun t45 w =>
      gd t43 false (fun k => binQ Try.prog w .lss 3 true t45 (.int .i64 0) fun v => k v w) w fun t46 w =>
      pickQ t43 (.bool true) t46 fun t47 =>
      gd t47 false (fun k => k t12 w) w fun t49 w =>
      gd t47 false (fun k => k t38 w) w fun t50 w =>
      gd t47 false (fun k => ln1 t50 fun v => k v w) w fun t51 w =>
      gd t47 false (fun k => binQ Try.prog w .geq 3 false t49 t51 fun v => k v w) w fun t52 w =>
      pickQ t47 (.bool true) t52 fun t53 =>
      condW t53 (
        R (.returned (.tuple #[t38, t12, t13, (.int .i64 0)])) w
      ) (
        Drew w fun w =>
        fa1 t3 1 fun t54 =>
        ld1 w t54 fun t55 =>
        binQ Try.prog w .mul 3 true (.int .i64 2) t13 fun t57 =>
        iaS 1 t38 t12 fun t60 =>
        ld1 w t60 fun t61 =>
        binQ Try.prog w .add 3 false t57 t61 fun t62 =>
        iaS 3 t55 t62 fun t63 =>
        ldN 3 w t63 fun t64 =>
        boxW 102 (.agg #[(.int .i64 0), (.bool false), (.int .i64 0)]) w <| keepB w fun t14 w =>
        stW Try.prog 102 t14 t64 w fun w =>
        Drew w fun w =>
        ∃ X : Nat → Prop,
        takeX X w (fun w k => k t38) fun t65 =>
        takeX X w (fun w k => k t12) fun t66 =>
        takeX X w (fun w k => fa1 t14 0 k) fun t67 =>
        takeX X w (fun w k => ld1 w t67 k) fun t68 =>
        takeX X w (fun w k => fa1 t14 2 k) fun t69 =>
        takeX X w (fun w k => ld1 w t69 k) fun t70 =>
        takeX X w (fun w k => iaS 1 t65 t66 k) fun t71 =>
        stW Try.prog 3 t71 t68 w <| keepW X w fun w =>
        takeX X w (fun w k => k t70) fun t13_2 =>
        binQ Try.prog w .lss 3 true t13_2 (.int .i64 0) fun t76 =>
        Join (fun (k_2 : Value → World → Prop) =>
          condW t76 (
            k_2 t12 w
          ) (
            fa1 t14 1 fun t78 =>
            ld1 w t78 fun t79 =>
            condW t79 (
              binQ Try.prog w .add 3 true t12 (.int .i64 1) fun t81 =>
              k_2 t81 w
            ) (
              binQ Try.prog w .sub 3 true t12 (.int .i64 1) fun t73 =>
              k_2 t73 w
            )
          )
        ) fun t12_2 w =>
        binQ Try.prog w .add 3 true t40 (.int .i64 1) fun t82_2 =>
        next t12_2 t13_2 t82_2 w
      )
    ) (
      R (.returned (.tuple #[t38, t12, t13, (.int .i64 0)])) w
    )

def S41 (t0 t1 t2 : Value) (w : World) (R : Ending → World → Prop) : Prop :=
  boxW 51 t0 w fun t3 w =>
  ldN 2 w t3 fun t15 =>
  callW Try.prog (.func (.func 89) #[] #[]) [t15] w fun t16 w =>
  unQ .not t16 fun t17 =>
  gd t17 false (fun k => k t1 w) w fun t19 w =>
  gd t17 false (fun k => ln1 t19 fun v => k v w) w fun t20 w =>
  gd t17 false (fun k => callW Try.prog (.func (.func 66) #[] #[]) [t20] w k) w fun t21 w =>
  gd t17 false (fun k => unQ .not t21 fun v => k v w) w fun t22 w =>
  pickQ t17 (.bool true) t22 fun t23 =>
  gd t23 false (fun k => k t1 w) w fun t25 w =>
  gd t23 false (fun k => k (.func (.func 94) #[] #[]) w) w fun t26 w =>
  gd t23 false (fun k => callW Try.prog (.func (.func 54) #[] #[]) [t25, t26] w k) w fun t27 w =>
  pickQ t23 (.bool true) t27 fun t28 =>
  gd t28 false (fun k => k t2 w) w fun t30 w =>
  gd t28 false (fun k => binQ Try.prog w .lss 3 true t30 (.int .i64 0) fun v => k v w) w fun t31 w =>
  pickQ t28 (.bool true) t31 fun t32 =>
  gd t32 false (fun k => k t2 w) w fun t34 w =>
  gd t32 false (fun k => binQ Try.prog w .gtr 3 true t34 (.int .i64 4) fun v => k v w) w fun t35 w =>
  pickQ t32 (.bool true) t35 fun t36 =>
  condW t36 (
    R (.returned (.tuple #[(.slice none 0 0), (.int .i64 0), (.int .i64 0), (.int .i64 2)])) w
  ) (
    callW Try.prog (.func (.func 79) #[] #[]) [t1] w fun t38 w =>
    S41L0 t2 t3 t38 R w
  )

def A41 : Ann where
  live := fun
    | 0 => [12, 13, 40]
    | _ => []
  wr := fun
    | 0 => fun i => (Nat.ble 12 i && Nat.ble i 14) || (Nat.ble 40 i && Nat.ble i 82)
    | _ => fun _ => false
  sched := fun
    | 9 => (.take 0 (.take 1 (.take 2 (.take 3 (.take 4 (.take 5 (.take 6 (.take 7 (.take 8 (.take 9 (.take 10 (.eff 11 (.bar 12 .done)))))))))))))
    | 10 => (.cls (.take 0 (.take 1 (.take 2 (.take 3 (.take 4 (.take 5 (.take 6 (.eff 7 (.take 8 .done))))))))))
    | _ => .done

set_option maxRecDepth 100000 in
theorem ok41 : (codeOk Try.f41.ntmps A41 (Try.f41.body.getD .skip) 0 && Nat.ble 3 Try.f41.ntmps) = true := by kernel_rfl
set_option maxRecDepth 100000 in
theorem lift41 {t0 t1 t2 : Value} {w : World} {R : Ending → World → Prop} (h : S41 t0 t1 t2 w R) : Calls Try.prog 41 #[t0, t1, t2] w R :=
  calls_of_cw (fn := Try.f41) (c := Try.f41.body.getD .skip) A41 mixes Try.func41 (by kernel_rfl) ok41
    ((by kernel_rfl : (S41 t0 t1 t2 w R) = cw Try.prog A41 (Try.f41.body.getD .skip) 0 (bodyQ Try.prog Try.f41 R) (frOf #[t0, t1, t2]) w).mp h)

def S42L1 (t2 t3 t10 : Value) (R : Ending → World → Prop) (w : World) : Prop :=
  Loop3 (.int .i64 0) (.int .i64 0) (.int .i64 0) w fun _ t12 t13 t14 w next_2 =>
    binQ Try.prog w .lss 3 false t14 t2 fun t60 =>
    gd t60 true (fun k => k t13 w) w fun t62 w =>
    gd t60 true (fun k => binQ Try.prog w .geq 3 true t62 (.int .i64 0) fun v => k v w) w fun t63 w =>
    pickQ t60 t63 (.bool false) fun t64 =>
    gd t64 true (fun k => k t12 w) w fun t66 w =>
    gd t64 true (fun k => binQ Try.prog w .geq 3 true t66 (.int .i64 0) fun v => k v w) w fun t67 w =>
    pickQ t64 t67 (.bool false) fun t68 =>
    gd t68 true (fun k => k t12 w) w fun t70 w =>
    gd t68 true (fun k => k t10 w) w fun t71 w =>
    gd t68 true (fun k => ln1 t71 fun v => k v w) w fun t72 w =>
    gd t68 true (fun k => binQ Try.prog w .lss 3 false t70 t72 fun v => k v w) w fun t73 w =>
    pickQ t68 t73 (.bool false) fun t74 =>
    condW t74 (
      Drew w fun w =>
      fa1 t3 1 fun t77 =>
      ld1 w t77 fun t78 =>
      binQ Try.prog w .mul 3 true (.int .i64 2) t13 fun t80 =>
      iaS 1 t10 t12 fun t83 =>
      ld1 w t83 fun t84 =>
      binQ Try.prog w .add 3 false t80 t84 fun t85 =>
      iaS 3 t78 t85 fun t86 =>
      ldN 3 w t86 fun t87 =>
      boxW 102 (.agg #[(.int .i64 0), (.bool false), (.int .i64 0)]) w <| keepB w fun t15 w =>
      stW Try.prog 102 t15 t87 w fun w =>
      fa1 t15 0 fun t90 =>
      ld1 w t90 fun t91 =>
      iaS 1 t10 t12 fun t92 =>
      stW Try.prog 3 t92 t91 w fun w =>
      fa1 t15 2 fun t93 =>
      ld1 w t93 fun t94 =>
      binQ Try.prog w .geq 3 true t94 (.int .i64 0) fun t96 =>
      gd t96 true (fun k => fa1 t15 1 fun v => k v w) w fun t98 w =>
      gd t96 true (fun k => ld1 w t98 fun v => k v w) w fun t99 w =>
      pickQ t96 t99 (.bool false) fun t100 =>
      Join (fun (k_2 : Value → World → Prop) =>
        condW t100 (
          binQ Try.prog w .add 3 true t12 (.int .i64 1) fun t102 =>
          k_2 t102 w
        ) (
          binQ Try.prog w .geq 3 true t94 (.int .i64 0) fun t104 =>
          condW t104 (
            binQ Try.prog w .sub 3 true t12 (.int .i64 1) fun t106 =>
            k_2 t106 w
          ) (
            k_2 t12 w
          )
        )
      ) fun t12_2 w =>
      binQ Try.prog w .add 3 true t14 (.int .i64 1) fun t76_2 =>
      next_2 t12_2 t94 t76_2 w
    ) (
      R (.returned (.tuple #[t10, t12, t13, (.int .i64 0)])) w
    )

def S42L0 (t1 t2 t3 : Value) (R : Ending → World → Prop) (w : World) : Prop :=
  Loop2 (.slice none 0 0) (.int .i64 0) w fun _ t10 t11 w next =>
    ln1 t1 fun t35 =>
    binQ Try.prog w .lss 3 false t11 t35 fun t36 =>
    condW t36 (
      iaS 1 t1 t11 fun t41 =>
      ld1 w t41 fun t42 =>
      binQ Try.prog w .lss 3 true t42 (.int .i64 0) fun t43 =>
      gd t43 false (fun k => k t1 w) w fun t45 w =>
      gd t43 false (fun k => k t11 w) w fun t46 w =>
      gd t43 false (fun k => iaS 1 t45 t46 fun v => k v w) w fun t47 w =>
      gd t43 false (fun k => ld1 w t47 fun v => k v w) w fun t48 w =>
      gd t43 false (fun k => binQ Try.prog w .gtr 3 true t48 (.int .i64 1) fun v => k v w) w fun t49 w =>
      pickQ t43 (.bool true) t49 fun t50 =>
      condW t50 (
        R (.returned (.tuple #[(.slice none 0 0), (.int .i64 0), (.int .i64 0), (.int .i64 2)])) w
      ) (
        iaS 1 t1 t11 fun t54 =>
        ld1 w t54 fun t55 =>
        bsW Try.prog 30 1 [(0, t55)] w fun t56 w =>
        semW Try.prog (apS [30, 30] 30 [t10, t56]) w fun t57 w =>
        binQ Try.prog w .add 3 true t11 (.int .i64 1) fun t38 =>
        next t57 t38 w
      )
    ) (
      S42L1 t2 t3 t10 R w
    )

def S42 (t0 t1 t2 : Value) (w : World) (R : Ending → World → Prop) : Prop :=
  boxW 51 t0 w fun t3 w =>
  ldN 2 w t3 fun t16 =>
  callW Try.prog (.func (.func 93) #[] #[]) [t16] w fun t17 w =>
  unQ .not t17 fun t18 =>
  gd t18 false (fun k => k t1 w) w fun t20 w =>
  gd t18 false (fun k => ln1 t20 fun v => k v w) w fun t21 w =>
  gd t18 false (fun k => callW Try.prog (.func (.func 68) #[] #[]) [t21] w k) w fun t22 w =>
  gd t18 false (fun k => unQ .not t22 fun v => k v w) w fun t23 w =>
  pickQ t18 (.bool true) t23 fun t24 =>
  gd t24 false (fun k => k t2 w) w fun t26 w =>
  gd t24 false (fun k => binQ Try.prog w .lss 3 true t26 (.int .i64 0) fun v => k v w) w fun t27 w =>
  pickQ t24 (.bool true) t27 fun t28 =>
  gd t28 false (fun k => k t2 w) w fun t30 w =>
  gd t28 false (fun k => binQ Try.prog w .gtr 3 true t30 (.int .i64 4) fun v => k v w) w fun t31 w =>
  pickQ t28 (.bool true) t31 fun t32 =>
  condW t32 (
    R (.returned (.tuple #[(.slice none 0 0), (.int .i64 0), (.int .i64 0), (.int .i64 2)])) w
  ) (
    S42L0 t1 t2 t3 R w
  )

def A42 : Ann where
  live := fun
    | 0 => [10, 11]
    | 2 => [12, 13, 14]
    | _ => []
  wr := fun
    | 0 => fun i => (Nat.ble 6 i && Nat.ble i 11) || (Nat.ble 33 i && Nat.ble i 57)
    | 2 => fun i => (Nat.ble 12 i && Nat.ble i 15) || (Nat.ble 58 i && Nat.ble i 106)
    | _ => fun _ => false
  sched := fun
    | 14 => (.take 0 (.take 1 (.take 2 (.take 3 (.take 4 (.take 5 (.take 6 (.take 7 (.take 8 (.take 9 (.take 10 (.eff 11 (.bar 12 .done)))))))))))))
    | _ => .done

set_option maxRecDepth 100000 in
theorem ok42 : (codeOk Try.f42.ntmps A42 (Try.f42.body.getD .skip) 0 && Nat.ble 3 Try.f42.ntmps) = true := by kernel_rfl
set_option maxRecDepth 100000 in
theorem lift42 {t0 t1 t2 : Value} {w : World} {R : Ending → World → Prop} (h : S42 t0 t1 t2 w R) : Calls Try.prog 42 #[t0, t1, t2] w R :=
  calls_of_cw (fn := Try.f42) (c := Try.f42.body.getD .skip) A42 mixes Try.func42 (by kernel_rfl) ok42
    ((by kernel_rfl : (S42 t0 t1 t2 w R) = cw Try.prog A42 (Try.f42.body.getD .skip) 0 (bodyQ Try.prog Try.f42 R) (frOf #[t0, t1, t2]) w).mp h)

def S43 (t0 t1 : Value) (w : World) (R : Ending → World → Prop) : Prop :=
  ln1 t0 fun t7 =>
  ln1 t1 fun t9 =>
  binQ Try.prog w .neq 3 false t7 t9 fun t10 =>
  condW t10 (
    R (.returned (.bool false)) w
  ) (
    Loop1 (.int .i64 0) w fun _ t5 w next =>
      ln1 t0 fun t13 =>
      binQ Try.prog w .lss 3 false t5 t13 fun t14 =>
      condW t14 (
        Drew w fun w =>
        iaS 1 t0 t5 fun t19 =>
        ld1 w t19 fun t20 =>
        iaS 1 t1 t5 fun t23 =>
        ld1 w t23 fun t24 =>
        binQ Try.prog w .neq 3 false t20 t24 fun t25 =>
        condW t25 (
          R (.returned (.bool false)) w
        ) (
          binQ Try.prog w .add 3 true t5 (.int .i64 1) fun t16 =>
          next t16 w
        )
      ) (
        R (.returned (.bool true)) w
      )
  )

def A43 : Ann where
  live := fun
    | 0 => [5]
    | _ => []
  wr := fun
    | 0 => fun i => (Nat.ble 4 i && Nat.ble i 5) || (Nat.ble 11 i && Nat.ble i 25)
    | _ => fun _ => false
  sched := fun
    | 6 => (.take 0 (.take 1 (.take 2 (.take 3 (.take 4 (.take 5 (.take 6 (.take 7 (.take 8 .done)))))))))
    | _ => .done

set_option maxRecDepth 100000 in
theorem ok43 : (codeOk Try.f43.ntmps A43 (Try.f43.body.getD .skip) 0 && Nat.ble 2 Try.f43.ntmps) = true := by kernel_rfl
set_option maxRecDepth 100000 in
theorem lift43 {t0 t1 : Value} {w : World} {R : Ending → World → Prop} (h : S43 t0 t1 w R) : Calls Try.prog 43 #[t0, t1] w R :=
  calls_of_cw (fn := Try.f43) (c := Try.f43.body.getD .skip) A43 mixes Try.func43 (by kernel_rfl) ok43
    ((by kernel_rfl : (S43 t0 t1 w R) = cw Try.prog A43 (Try.f43.body.getD .skip) 0 (bodyQ Try.prog Try.f43 R) (frOf #[t0, t1]) w).mp h)

def S79 (t0 : Value) (w : World) (R : Ending → World → Prop) : Prop :=
  binQ Try.prog w .eql 30 true t0 (.slice none 0 0) fun t4 =>
  condW t4 (
    R (.returned (.slice none 0 0)) w
  ) (
    bsW Try.prog 30 0 [] w fun t5 w =>
    semW Try.prog (apS [30, 30] 30 [t5, t0]) w fun t7 w =>
    R (.returned t7) w
  )

def A79 : Ann where
  live := fun _ => []
  wr := fun _ _ => false
  sched := fun _ => .done

set_option maxRecDepth 100000 in
theorem ok79 : (codeOk Try.f79.ntmps A79 (Try.f79.body.getD .skip) 0 && Nat.ble 1 Try.f79.ntmps) = true := by kernel_rfl
set_option maxRecDepth 100000 in
theorem lift79 {t0 : Value} {w : World} {R : Ending → World → Prop} (h : S79 t0 w R) : Calls Try.prog 79 #[t0] w R :=
  calls_of_cw (fn := Try.f79) (c := Try.f79.body.getD .skip) A79 mixes Try.func79 (by kernel_rfl) ok79
    ((by kernel_rfl : (S79 t0 w R) = cw Try.prog A79 (Try.f79.body.getD .skip) 0 (bodyQ Try.prog Try.f79 R) (frOf #[t0]) w).mp h)

def S89 (t0 : Value) (w : World) (R : Ending → World → Prop) : Prop :=
  boxW 51 t0 w fun t1 w =>
  fa1 t1 0 fun t3 =>
  ld1 w t3 fun t4 =>
  binQ Try.prog w .geq 3 true t4 (.int .i64 1) fun t5 =>
  gd t5 true (fun k => fa1 t1 0 fun v => k v w) w fun t7 w =>
  gd t5 true (fun k => ld1 w t7 fun v => k v w) w fun t8 w =>
  gd t5 true (fun k => binQ Try.prog w .leq 3 true t8 (.int .i64 2) fun v => k v w) w fun t9 w =>
  pickQ t5 t9 (.bool false) fun t10 =>
  gd t10 true (fun k => fa1 t1 1 fun v => k v w) w fun t12 w =>
  gd t10 true (fun k => ld1 w t12 fun v => k v w) w fun t13 w =>
  gd t10 true (fun k => ln1 t13 fun v => k v w) w fun t14 w =>
  gd t10 true (fun k => fa1 t1 0 fun v => k v w) w fun t15 w =>
  gd t10 true (fun k => ld1 w t15 fun v => k v w) w fun t16 w =>
  gd t10 true (fun k => binQ Try.prog w .mul 3 true (.int .i64 2) t16 fun v => k v w) w fun t17 w =>
  gd t10 true (fun k => binQ Try.prog w .eql 3 false t14 t17 fun v => k v w) w fun t18 w =>
  pickQ t10 t18 (.bool false) fun t19 =>
  gd t19 true (fun k => fa1 t1 1 fun v => k v w) w fun t21 w =>
  gd t19 true (fun k => ld1 w t21 fun v => k v w) w fun t22 w =>
  gd t19 true (fun k => k (.func (.func 115) #[] #[t1]) w) w fun t23 w =>
  gd t19 true (fun k => callW Try.prog (.func (.func 114) #[] #[]) [t22, t23] w k) w fun t24 w =>
  gd t19 true (fun k => unQ .not t24 fun v => k v w) w fun t25 w =>
  pickQ t19 t25 (.bool false) fun t26 =>
  R (.returned t26) w

def A89 : Ann where
  live := fun _ => []
  wr := fun _ _ => false
  sched := fun _ => .done

set_option maxRecDepth 100000 in
theorem ok89 : (codeOk Try.f89.ntmps A89 (Try.f89.body.getD .skip) 0 && Nat.ble 1 Try.f89.ntmps) = true := by kernel_rfl
set_option maxRecDepth 100000 in
theorem lift89 {t0 : Value} {w : World} {R : Ending → World → Prop} (h : S89 t0 w R) : Calls Try.prog 89 #[t0] w R :=
  calls_of_cw (fn := Try.f89) (c := Try.f89.body.getD .skip) A89 mixes Try.func89 (by kernel_rfl) ok89
    ((by kernel_rfl : (S89 t0 w R) = cw Try.prog A89 (Try.f89.body.getD .skip) 0 (bodyQ Try.prog Try.f89 R) (frOf #[t0]) w).mp h)

def S90 (t0 t1 : Value) (w : World) (R : Ending → World → Prop) : Prop :=
  binQ Try.prog w .mul 3 true (.int .i64 2) t0 fun t6 =>
  binQ Try.prog w .add 3 true (.int .i64 2) t6 fun t7 =>
  binQ Try.prog w .add 3 false t7 t1 fun t9 =>
  R (.returned t9) w

def A90 : Ann where
  live := fun _ => []
  wr := fun _ _ => false
  sched := fun _ => .done

set_option maxRecDepth 100000 in
theorem ok90 : (codeOk Try.f90.ntmps A90 (Try.f90.body.getD .skip) 0 && Nat.ble 2 Try.f90.ntmps) = true := by kernel_rfl
set_option maxRecDepth 100000 in
theorem lift90 {t0 t1 : Value} {w : World} {R : Ending → World → Prop} (h : S90 t0 t1 w R) : Calls Try.prog 90 #[t0, t1] w R :=
  calls_of_cw (fn := Try.f90) (c := Try.f90.body.getD .skip) A90 mixes Try.func90 (by kernel_rfl) ok90
    ((by kernel_rfl : (S90 t0 t1 w R) = cw Try.prog A90 (Try.f90.body.getD .skip) 0 (bodyQ Try.prog Try.f90 R) (frOf #[t0, t1]) w).mp h)

def S91 (t0 : Value) (w : World) (R : Ending → World → Prop) : Prop :=
  binQ Try.prog w .add 3 true (.int .i64 1) t0 fun t4 =>
  R (.returned t4) w

def A91 : Ann where
  live := fun _ => []
  wr := fun _ _ => false
  sched := fun _ => .done

set_option maxRecDepth 100000 in
theorem ok91 : (codeOk Try.f91.ntmps A91 (Try.f91.body.getD .skip) 0 && Nat.ble 1 Try.f91.ntmps) = true := by kernel_rfl
set_option maxRecDepth 100000 in
theorem lift91 {t0 : Value} {w : World} {R : Ending → World → Prop} (h : S91 t0 w R) : Calls Try.prog 91 #[t0] w R :=
  calls_of_cw (fn := Try.f91) (c := Try.f91.body.getD .skip) A91 mixes Try.func91 (by kernel_rfl) ok91
    ((by kernel_rfl : (S91 t0 w R) = cw Try.prog A91 (Try.f91.body.getD .skip) 0 (bodyQ Try.prog Try.f91 R) (frOf #[t0]) w).mp h)

def S92 (t0 t1 : Value) (w : World) (R : Ending → World → Prop) : Prop :=
  fa1 t1 0 fun t4 =>
  ld1 w t4 fun t5 =>
  binQ Try.prog w .add 3 true (.int .i64 1) t5 fun t6 =>
  binQ Try.prog w .add 3 false t6 t0 fun t8 =>
  R (.returned t8) w

def A92 : Ann where
  live := fun _ => []
  wr := fun _ _ => false
  sched := fun _ => .done

set_option maxRecDepth 100000 in
theorem ok92 : (codeOk Try.f92.ntmps A92 (Try.f92.body.getD .skip) 0 && Nat.ble 2 Try.f92.ntmps) = true := by kernel_rfl
set_option maxRecDepth 100000 in
theorem lift92 {t0 t1 : Value} {w : World} {R : Ending → World → Prop} (h : S92 t0 t1 w R) : Calls Try.prog 92 #[t0, t1] w R :=
  calls_of_cw (fn := Try.f92) (c := Try.f92.body.getD .skip) A92 mixes Try.func92 (by kernel_rfl) ok92
    ((by kernel_rfl : (S92 t0 t1 w R) = cw Try.prog A92 (Try.f92.body.getD .skip) 0 (bodyQ Try.prog Try.f92 R) (frOf #[t0, t1]) w).mp h)

def S93 (t0 : Value) (w : World) (R : Ending → World → Prop) : Prop :=
  boxW 51 t0 w fun t1 w =>
  fa1 t1 0 fun t5 =>
  ld1 w t5 fun t6 =>
  binQ Try.prog w .lss 3 true t6 (.int .i64 1) fun t7 =>
  gd t7 false (fun k => fa1 t1 0 fun v => k v w) w fun t9 w =>
  gd t7 false (fun k => ld1 w t9 fun v => k v w) w fun t10 w =>
  gd t7 false (fun k => binQ Try.prog w .gtr 3 true t10 (.int .i64 2) fun v => k v w) w fun t11 w =>
  pickQ t7 (.bool true) t11 fun t12 =>
  gd t12 false (fun k => fa1 t1 1 fun v => k v w) w fun t14 w =>
  gd t12 false (fun k => ld1 w t14 fun v => k v w) w fun t15 w =>
  gd t12 false (fun k => ln1 t15 fun v => k v w) w fun t16 w =>
  gd t12 false (fun k => fa1 t1 0 fun v => k v w) w fun t17 w =>
  gd t12 false (fun k => ld1 w t17 fun v => k v w) w fun t18 w =>
  gd t12 false (fun k => binQ Try.prog w .mul 3 true (.int .i64 2) t18 fun v => k v w) w fun t19 w =>
  gd t12 false (fun k => binQ Try.prog w .neq 3 false t16 t19 fun v => k v w) w fun t20 w =>
  pickQ t12 (.bool true) t20 fun t21 =>
  condW t21 (
    R (.returned (.bool false)) w
  ) (
    Loop1 (.int .i64 0) w fun _ t3 w next =>
      fa1 t1 1 fun t23 =>
      ld1 w t23 fun t24 =>
      ln1 t24 fun t25 =>
      binQ Try.prog w .lss 3 false t3 t25 fun t26 =>
      condW t26 (
        fa1 t1 1 fun t29 =>
        ld1 w t29 fun t30 =>
        iaS 3 t30 t3 fun t32 =>
        ldN 3 w t32 fun t33 =>
        boxW 102 (.agg #[(.int .i64 0), (.bool false), (.int .i64 0)]) w fun t4 w =>
        stW Try.prog 102 t4 t33 w fun w =>
        fa1 t4 0 fun t34 =>
        ld1 w t34 fun t35 =>
        binQ Try.prog w .lss 3 true t35 (.int .i64 0) fun t36 =>
        gd t36 false (fun k => fa1 t4 0 fun v => k v w) w fun t38 w =>
        gd t36 false (fun k => ld1 w t38 fun v => k v w) w fun t39 w =>
        gd t36 false (fun k => binQ Try.prog w .gtr 3 true t39 (.int .i64 1) fun v => k v w) w fun t40 w =>
        pickQ t36 (.bool true) t40 fun t41 =>
        gd t41 false (fun k => fa1 t4 2 fun v => k v w) w fun t43 w =>
        gd t41 false (fun k => ld1 w t43 fun v => k v w) w fun t44 w =>
        gd t41 false (fun k => binQ Try.prog w .lss 3 true t44 (.int .i64 (-1)) fun v => k v w) w fun t45 w =>
        pickQ t41 (.bool true) t45 fun t46 =>
        gd t46 false (fun k => fa1 t4 2 fun v => k v w) w fun t48 w =>
        gd t46 false (fun k => ld1 w t48 fun v => k v w) w fun t49 w =>
        gd t46 false (fun k => fa1 t1 0 fun v => k v w) w fun t50 w =>
        gd t46 false (fun k => ld1 w t50 fun v => k v w) w fun t51 w =>
        gd t46 false (fun k => binQ Try.prog w .geq 3 false t49 t51 fun v => k v w) w fun t52 w =>
        pickQ t46 (.bool true) t52 fun t53 =>
        condW t53 (
          R (.returned (.bool false)) w
        ) (
          binQ Try.prog w .add 3 true t3 (.int .i64 1) fun t28 =>
          next t28 w
        )
      ) (
        R (.returned (.bool true)) w
      )
  )

def A93 : Ann where
  live := fun
    | 0 => [3]
    | _ => []
  wr := fun
    | 0 => fun i => (Nat.ble 2 i && Nat.ble i 4) || (Nat.ble 22 i && Nat.ble i 53)
    | _ => fun _ => false
  sched := fun _ => .done

set_option maxRecDepth 100000 in
theorem ok93 : (codeOk Try.f93.ntmps A93 (Try.f93.body.getD .skip) 0 && Nat.ble 1 Try.f93.ntmps) = true := by kernel_rfl
set_option maxRecDepth 100000 in
theorem lift93 {t0 : Value} {w : World} {R : Ending → World → Prop} (h : S93 t0 w R) : Calls Try.prog 93 #[t0] w R :=
  calls_of_cw (fn := Try.f93) (c := Try.f93.body.getD .skip) A93 mixes Try.func93 (by kernel_rfl) ok93
    ((by kernel_rfl : (S93 t0 w R) = cw Try.prog A93 (Try.f93.body.getD .skip) 0 (bodyQ Try.prog Try.f93 R) (frOf #[t0]) w).mp h)

def S94 (t0 : Value) (w : World) (R : Ending → World → Prop) : Prop :=
  binQ Try.prog w .neq 3 true t0 (.int .i64 0) fun t4 =>
  gd t4 true (fun k => k t0 w) w fun t6 w =>
  gd t4 true (fun k => binQ Try.prog w .neq 3 true t6 (.int .i64 1) fun v => k v w) w fun t7 w =>
  pickQ t4 t7 (.bool false) fun t8 =>
  R (.returned t8) w

def A94 : Ann where
  live := fun _ => []
  wr := fun _ _ => false
  sched := fun _ => .done

set_option maxRecDepth 100000 in
theorem ok94 : (codeOk Try.f94.ntmps A94 (Try.f94.body.getD .skip) 0 && Nat.ble 1 Try.f94.ntmps) = true := by kernel_rfl
set_option maxRecDepth 100000 in
theorem lift94 {t0 : Value} {w : World} {R : Ending → World → Prop} (h : S94 t0 w R) : Calls Try.prog 94 #[t0] w R :=
  calls_of_cw (fn := Try.f94) (c := Try.f94.body.getD .skip) A94 mixes Try.func94 (by kernel_rfl) ok94
    ((by kernel_rfl : (S94 t0 w R) = cw Try.prog A94 (Try.f94.body.getD .skip) 0 (bodyQ Try.prog Try.f94 R) (frOf #[t0]) w).mp h)

def S114 (t0 t1 : Value) (w : World) (R : Ending → World → Prop) : Prop :=
  callW Try.prog (.func (.func 131) #[] #[]) [t0, t1] w fun t7 w =>
  binQ Try.prog w .geq 3 true t7 (.int .i64 0) fun t8 =>
  R (.returned t8) w

def A114 : Ann where
  live := fun _ => []
  wr := fun _ _ => false
  sched := fun _ => .done

set_option maxRecDepth 100000 in
theorem ok114 : (codeOk Try.f114.ntmps A114 (Try.f114.body.getD .skip) 0 && Nat.ble 2 Try.f114.ntmps) = true := by kernel_rfl
set_option maxRecDepth 100000 in
theorem lift114 {t0 t1 : Value} {w : World} {R : Ending → World → Prop} (h : S114 t0 t1 w R) : Calls Try.prog 114 #[t0, t1] w R :=
  calls_of_cw (fn := Try.f114) (c := Try.f114.body.getD .skip) A114 mixes Try.func114 (by kernel_rfl) ok114
    ((by kernel_rfl : (S114 t0 t1 w R) = cw Try.prog A114 (Try.f114.body.getD .skip) 0 (bodyQ Try.prog Try.f114 R) (frOf #[t0, t1]) w).mp h)

def S115 (t0 t1 : Value) (w : World) (R : Ending → World → Prop) : Prop :=
  boxW 102 t0 w fun t2 w =>
  fa1 t2 0 fun t4 =>
  ld1 w t4 fun t5 =>
  binQ Try.prog w .lss 3 true t5 (.int .i64 0) fun t6 =>
  gd t6 false (fun k => fa1 t2 0 fun v => k v w) w fun t8 w =>
  gd t6 false (fun k => ld1 w t8 fun v => k v w) w fun t9 w =>
  gd t6 false (fun k => binQ Try.prog w .gtr 3 true t9 (.int .i64 1) fun v => k v w) w fun t10 w =>
  pickQ t6 (.bool true) t10 fun t11 =>
  gd t11 false (fun k => fa1 t2 2 fun v => k v w) w fun t13 w =>
  gd t11 false (fun k => ld1 w t13 fun v => k v w) w fun t14 w =>
  gd t11 false (fun k => binQ Try.prog w .lss 3 true t14 (.int .i64 (-1)) fun v => k v w) w fun t15 w =>
  pickQ t11 (.bool true) t15 fun t16 =>
  gd t16 false (fun k => fa1 t2 2 fun v => k v w) w fun t18 w =>
  gd t16 false (fun k => ld1 w t18 fun v => k v w) w fun t19 w =>
  gd t16 false (fun k => fa1 t1 0 fun v => k v w) w fun t20 w =>
  gd t16 false (fun k => ld1 w t20 fun v => k v w) w fun t21 w =>
  gd t16 false (fun k => binQ Try.prog w .geq 3 false t19 t21 fun v => k v w) w fun t22 w =>
  pickQ t16 (.bool true) t22 fun t23 =>
  R (.returned t23) w

def A115 : Ann where
  live := fun _ => []
  wr := fun _ _ => false
  sched := fun _ => .done

set_option maxRecDepth 100000 in
theorem ok115 : (codeOk Try.f115.ntmps A115 (Try.f115.body.getD .skip) 0 && Nat.ble 2 Try.f115.ntmps) = true := by kernel_rfl
set_option maxRecDepth 100000 in
theorem lift115 {t0 t1 : Value} {w : World} {R : Ending → World → Prop} (h : S115 t0 t1 w R) : Calls Try.prog 115 #[t0, t1] w R :=
  calls_of_cw (fn := Try.f115) (c := Try.f115.body.getD .skip) A115 mixes Try.func115 (by kernel_rfl) ok115
    ((by kernel_rfl : (S115 t0 t1 w R) = cw Try.prog A115 (Try.f115.body.getD .skip) 0 (bodyQ Try.prog Try.f115 R) (frOf #[t0, t1]) w).mp h)

def S131 (t0 t1 : Value) (w : World) (R : Ending → World → Prop) : Prop :=
  ln1 t0 fun t7 =>
  Loop1 (.int .i64 0) w fun _ t8 w next =>
    binQ Try.prog w .lss 3 false t8 t7 fun t9 =>
    condW t9 (
      iaS 3 t0 t8 fun t14 =>
      ldN 3 w t14 fun t15 =>
      callW Try.prog t1 [t15] w fun t16 w =>
      condW t16 (
        R (.returned t8) w
      ) (
        binQ Try.prog w .add 3 true t8 (.int .i64 1) fun t18 =>
        next t18 w
      )
    ) (
      R (.returned (.int .i64 (-1))) w
    )

def A131 : Ann where
  live := fun
    | 0 => [8]
    | _ => []
  wr := fun
    | 0 => fun i => (Nat.ble 4 i && Nat.ble i 5) || (Nat.ble 8 i && Nat.ble i 18)
    | _ => fun _ => false
  sched := fun _ => .done

set_option maxRecDepth 100000 in
theorem ok131 : (codeOk Try.f131.ntmps A131 (Try.f131.body.getD .skip) 0 && Nat.ble 2 Try.f131.ntmps) = true := by kernel_rfl
set_option maxRecDepth 100000 in
theorem lift131 {t0 t1 : Value} {w : World} {R : Ending → World → Prop} (h : S131 t0 t1 w R) : Calls Try.prog 131 #[t0, t1] w R :=
  calls_of_cw (fn := Try.f131) (c := Try.f131.body.getD .skip) A131 mixes Try.func131 (by kernel_rfl) ok131
    ((by kernel_rfl : (S131 t0 t1 w R) = cw Try.prog A131 (Try.f131.body.getD .skip) 0 (bodyQ Try.prog Try.f131 R) (frOf #[t0, t1]) w).mp h)

theorem fok10 : fnOk Try.prog 10 = true := by kernel_rfl
theorem fok30 : fnOk Try.prog 30 = true := by kernel_rfl
theorem fok39 : fnOk Try.prog 39 = true := by kernel_rfl
theorem fok40 : fnOk Try.prog 40 = true := by kernel_rfl
theorem fok41 : fnOk Try.prog 41 = true := by kernel_rfl
theorem fok42 : fnOk Try.prog 42 = true := by kernel_rfl
theorem fok43 : fnOk Try.prog 43 = true := by kernel_rfl
theorem fok79 : fnOk Try.prog 79 = true := by kernel_rfl
theorem fok89 : fnOk Try.prog 89 = true := by kernel_rfl
theorem fok90 : fnOk Try.prog 90 = true := by kernel_rfl
theorem fok91 : fnOk Try.prog 91 = true := by kernel_rfl
theorem fok92 : fnOk Try.prog 92 = true := by kernel_rfl
theorem fok93 : fnOk Try.prog 93 = true := by kernel_rfl
theorem fok94 : fnOk Try.prog 94 = true := by kernel_rfl
theorem fok114 : fnOk Try.prog 114 = true := by kernel_rfl
theorem fok115 : fnOk Try.prog 115 = true := by kernel_rfl
theorem fok131 : fnOk Try.prog 131 = true := by kernel_rfl
end Go.Proofs.Ytgalbokmgffhkaa
