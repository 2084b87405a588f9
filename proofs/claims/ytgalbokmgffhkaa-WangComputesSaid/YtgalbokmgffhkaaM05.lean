/- Texts of my own, merged by program: A2 Sb A3. -/
import Derived.Test.YtgalbokmgffhkaaM04
import Derived.Test.YtgalbokmgffhkaaM02
set_option linter.all false
/- Contracts: sets in the specification, the errors of a set and measures; colours as numbers. -/
namespace Go.Proofs.Ytgalbokmgffhkaa
open Go.Lf Go.RowKit Go.Wg

set_option maxRecDepth 100000 in
/-- Set of the specification. -/
theorem refset_calls {v : Value} {l : List Tile} (w : World) (hr : RdT w v l) : Calls Try.prog 35 #[v] w fun e w' => e = .returned (.bool (setB l)) ∧ Kp w w' := by
  obtain ⟨a, cap, rfl, hcap⟩ := hr.len
  refine lift35 ?_
  unfold S35
  by_cases h1 : (l.length : Int) < 1
  · simp (disch := omega) only [r_ln, r_pick, r_pickT, r_pickF, r_condT, r_condF, r_gdTT, r_gdFF, r_gdTF, r_gdFT, r_gqTT, r_gqFF, r_gqTF, r_gqFT, r_not, r_lss, r_leq, r_gtr, r_geq, r_eql, r_neq, r_add, r_sub, r_min2, r_max2, r_min3, r_max3, r_fa, r_iaS, r_iaA, r_ex2a, r_ex2b, r_ex3a, r_ex3b, r_ex3c, r_nc, r_keepE, Nat.zero_add, Nat.add_zero, Nat.mul_one, Int.toNat_natCast, toNat_sub1, toNat_add1, decide_true, decide_false, Bool.not_true, Bool.not_false, if_true, if_false, Bool.false_eq_true, reduceCtorEq, h1]
    exact ⟨ret_bool (by have : l.length = 0 := by omega
                        simp [setB, this]), Kp.refl _⟩
  by_cases h2 : (16 : Int) < l.length
  · simp (disch := omega) only [r_ln, r_pick, r_pickT, r_pickF, r_condT, r_condF, r_gdTT, r_gdFF, r_gdTF, r_gdFT, r_gqTT, r_gqFF, r_gqTF, r_gqFT, r_not, r_lss, r_leq, r_gtr, r_geq, r_eql, r_neq, r_add, r_sub, r_min2, r_max2, r_min3, r_max3, r_fa, r_iaS, r_iaA, r_ex2a, r_ex2b, r_ex3a, r_ex3b, r_ex3c, r_nc, r_keepE, Nat.zero_add, Nat.add_zero, Nat.mul_one, Int.toNat_natCast, toNat_sub1, toNat_add1, decide_true, decide_false, Bool.not_true, Bool.not_false, if_true, if_false, Bool.false_eq_true, reduceCtorEq, h1, h2]
    exact ⟨ret_bool (by have : ¬ l.length ≤ 16 := by omega
                        simp [setB, this]), Kp.refl _⟩
  simp (disch := omega) only [r_ln, r_pick, r_pickT, r_pickF, r_condT, r_condF, r_gdTT, r_gdFF, r_gdTF, r_gdFT, r_gqTT, r_gqFF, r_gqTF, r_gqFT, r_not, r_lss, r_leq, r_gtr, r_geq, r_eql, r_neq, r_add, r_sub, r_min2, r_max2, r_min3, r_max3, r_fa, r_iaS, r_iaA, r_ex2a, r_ex2b, r_ex3a, r_ex3b, r_ex3c, r_nc, r_keepE, Nat.zero_add, Nat.add_zero, Nat.mul_one, Int.toNat_natCast, toNat_sub1, toNat_add1, decide_true, decide_false, Bool.not_true, Bool.not_false, if_true, if_false, Bool.false_eq_true, reduceCtorEq, h1, h2]
  refine ⟨fun t3 wr => ∃ i : Nat, i ≤ l.length ∧ t3 = .int .i64 i ∧ (∀ k, k < i → (colsB (tl l k) && !decide (tl l k ∈ l.take k)) = true) ∧ Kp w wr, fun t3 _ => l.length - (intOf t3).toNat, ⟨0, by omega, rfl, fun k hk => absurd hk (by omega), Kp.refl _⟩, ?_⟩
  rintro _ _ wr ⟨i, hi, rfl, hn, hkr⟩
  by_cases hlt : i < l.length
  case neg =>
    have hlt' : ¬ (i : Int) < (l.length : Int) := by omega
    simp (disch := omega) only [r_ln, r_pick, r_pickT, r_pickF, r_condT, r_condF, r_gdTT, r_gdFF, r_gdTF, r_gdFT, r_gqTT, r_gqFF, r_gqTF, r_gqFT, r_not, r_lss, r_leq, r_gtr, r_geq, r_eql, r_neq, r_add, r_sub, r_min2, r_max2, r_min3, r_max3, r_fa, r_iaS, r_iaA, r_ex2a, r_ex2b, r_ex3a, r_ex3b, r_ex3c, r_nc, r_keepE, Nat.zero_add, Nat.add_zero, Nat.mul_one, Int.toNat_natCast, toNat_sub1, toNat_add1, decide_true, decide_false, Bool.not_true, Bool.not_false, if_true, if_false, Bool.false_eq_true, reduceCtorEq, hlt']
    refine ⟨ret_bool ?_, hkr⟩
    symm
    simp only [setB, freshB, Bool.and_eq_true, decide_eq_true_eq, List.all_eq_true, List.mem_range]
    exact ⟨⟨by omega, by omega⟩, fun k hk => by have := hn k (by omega); simpa using this⟩
  have hlt' : (i : Int) < (l.length : Int) := by omega
  obtain ⟨b1, o1, _, e1, hld, _⟩ := RdT.tile (hr.kp hkr) hlt
  cases e1
  simp (disch := omega) only [r_ln, r_pick, r_pickT, r_pickF, r_condT, r_condF, r_gdTT, r_gdFF, r_gdTF, r_gdFT, r_gqTT, r_gqFF, r_gqTF, r_gqFT, r_not, r_lss, r_leq, r_gtr, r_geq, r_eql, r_neq, r_add, r_sub, r_min2, r_max2, r_min3, r_max3, r_fa, r_iaS, r_iaA, r_ex2a, r_ex2b, r_ex3a, r_ex3b, r_ex3c, r_nc, r_keepE, Nat.zero_add, Nat.add_zero, Nat.mul_one, Int.toNat_natCast, toNat_sub1, toNat_add1, decide_true, decide_false, Bool.not_true, Bool.not_false, if_true, if_false, Bool.false_eq_true, reduceCtorEq, hlt', hld]
  refine r_box fun b4 w1 e4 s4 h4 k4 => ?_
  refine r_stAll (n := 4) (ty := 32) (by kernel_rfl) rfl (by intro u hu; simp [Value.cells] at hu; rcases hu with rfl | rfl | rfl | rfl <;> rfl) h4 rfl fun w3 c2 s2 h3 => ?_
  have k03 : Kp wr w3 := Kp.of_chg k4 c2 fun i e => by omega
  have cN : w3.cell? ⟨b4, 0, none⟩ = some (.int .i64 (tN (tl l i))) := by rw [cell_row h3]; rfl
  have cE : w3.cell? ⟨b4, 1, none⟩ = some (.int .i64 (tE (tl l i))) := by rw [cell_row h3]; rfl
  have cS : w3.cell? ⟨b4, 2, none⟩ = some (.int .i64 (tS (tl l i))) := by rw [cell_row h3]; rfl
  have cW : w3.cell? ⟨b4, 3, none⟩ = some (.int .i64 (tW (tl l i))) := by rw [cell_row h3]; rfl
  have bad : (colsB (tl l i) && !decide (tl l i ∈ l.take i)) = false → (setB l) = false := fun hb => by
    cases hs : setB l
    · rfl
    · simp only [setB, freshB, Bool.and_eq_true, decide_eq_true_eq, List.all_eq_true, List.mem_range] at hs
      have := hs.2 i hlt
      rw [this.1, this.2] at hb
      cases hb
  have hcols : colsB (tl l i) = (colB (tN (tl l i)) && colB (tE (tl l i)) && colB (tS (tl l i)) && colB (tW (tl l i))) := rfl
  have kall : Kp w w3 := Kp.trans hkr k03
  simp (disch := omega) only [r_ln, r_pick, r_pickT, r_pickF, r_condT, r_condF, r_gdTT, r_gdFF, r_gdTF, r_gdFT, r_gqTT, r_gqFF, r_gqTF, r_gqFT, r_not, r_lss, r_leq, r_gtr, r_geq, r_eql, r_neq, r_add, r_sub, r_min2, r_max2, r_min3, r_max3, r_fa, r_iaS, r_iaA, r_ex2a, r_ex2b, r_ex3a, r_ex3b, r_ex3c, r_nc, r_keepE, Nat.zero_add, Nat.add_zero, Nat.mul_one, Int.toNat_natCast, toNat_sub1, toNat_add1, decide_true, decide_false, Bool.not_true, Bool.not_false, if_true, if_false, Bool.false_eq_true, reduceCtorEq, r_ld cN]
  refine r_use fok62 (refcolour_calls _ w3) rfl ?_
  rintro _ _ ⟨rfl, rfl⟩
  refine ⟨_, rfl, ?_⟩
  cases b1 : colB (tN (tl l i)) with
  | false =>
    simp (disch := omega) only [r_ln, r_pick, r_pickT, r_pickF, r_condT, r_condF, r_gdTT, r_gdFF, r_gdTF, r_gdFT, r_gqTT, r_gqFF, r_gqTF, r_gqFT, r_not, r_lss, r_leq, r_gtr, r_geq, r_eql, r_neq, r_add, r_sub, r_min2, r_max2, r_min3, r_max3, r_fa, r_iaS, r_iaA, r_ex2a, r_ex2b, r_ex3a, r_ex3b, r_ex3c, r_nc, r_keepE, Nat.zero_add, Nat.add_zero, Nat.mul_one, Int.toNat_natCast, toNat_sub1, toNat_add1, decide_true, decide_false, Bool.not_true, Bool.not_false, if_true, if_false, Bool.false_eq_true, reduceCtorEq]
    exact ⟨ret_bool (bad (by simp [hcols, b1])).symm, kall⟩
  | true =>
  simp (disch := omega) only [r_ln, r_pick, r_pickT, r_pickF, r_condT, r_condF, r_gdTT, r_gdFF, r_gdTF, r_gdFT, r_gqTT, r_gqFF, r_gqTF, r_gqFT, r_not, r_lss, r_leq, r_gtr, r_geq, r_eql, r_neq, r_add, r_sub, r_min2, r_max2, r_min3, r_max3, r_fa, r_iaS, r_iaA, r_ex2a, r_ex2b, r_ex3a, r_ex3b, r_ex3c, r_nc, r_keepE, Nat.zero_add, Nat.add_zero, Nat.mul_one, Int.toNat_natCast, toNat_sub1, toNat_add1, decide_true, decide_false, Bool.not_true, Bool.not_false, if_true, if_false, Bool.false_eq_true, reduceCtorEq, r_ld cE]
  refine r_use fok62 (refcolour_calls _ w3) rfl ?_
  rintro _ _ ⟨rfl, rfl⟩
  refine ⟨_, rfl, ?_⟩
  cases b2 : colB (tE (tl l i)) with
  | false =>
    simp (disch := omega) only [r_ln, r_pick, r_pickT, r_pickF, r_condT, r_condF, r_gdTT, r_gdFF, r_gdTF, r_gdFT, r_gqTT, r_gqFF, r_gqTF, r_gqFT, r_not, r_lss, r_leq, r_gtr, r_geq, r_eql, r_neq, r_add, r_sub, r_min2, r_max2, r_min3, r_max3, r_fa, r_iaS, r_iaA, r_ex2a, r_ex2b, r_ex3a, r_ex3b, r_ex3c, r_nc, r_keepE, Nat.zero_add, Nat.add_zero, Nat.mul_one, Int.toNat_natCast, toNat_sub1, toNat_add1, decide_true, decide_false, Bool.not_true, Bool.not_false, if_true, if_false, Bool.false_eq_true, reduceCtorEq]
    exact ⟨ret_bool (bad (by simp [hcols, b2])).symm, kall⟩
  | true =>
  simp (disch := omega) only [r_ln, r_pick, r_pickT, r_pickF, r_condT, r_condF, r_gdTT, r_gdFF, r_gdTF, r_gdFT, r_gqTT, r_gqFF, r_gqTF, r_gqFT, r_not, r_lss, r_leq, r_gtr, r_geq, r_eql, r_neq, r_add, r_sub, r_min2, r_max2, r_min3, r_max3, r_fa, r_iaS, r_iaA, r_ex2a, r_ex2b, r_ex3a, r_ex3b, r_ex3c, r_nc, r_keepE, Nat.zero_add, Nat.add_zero, Nat.mul_one, Int.toNat_natCast, toNat_sub1, toNat_add1, decide_true, decide_false, Bool.not_true, Bool.not_false, if_true, if_false, Bool.false_eq_true, reduceCtorEq, r_ld cS]
  refine r_use fok62 (refcolour_calls _ w3) rfl ?_
  rintro _ _ ⟨rfl, rfl⟩
  refine ⟨_, rfl, ?_⟩
  cases b3 : colB (tS (tl l i)) with
  | false =>
    simp (disch := omega) only [r_ln, r_pick, r_pickT, r_pickF, r_condT, r_condF, r_gdTT, r_gdFF, r_gdTF, r_gdFT, r_gqTT, r_gqFF, r_gqTF, r_gqFT, r_not, r_lss, r_leq, r_gtr, r_geq, r_eql, r_neq, r_add, r_sub, r_min2, r_max2, r_min3, r_max3, r_fa, r_iaS, r_iaA, r_ex2a, r_ex2b, r_ex3a, r_ex3b, r_ex3c, r_nc, r_keepE, Nat.zero_add, Nat.add_zero, Nat.mul_one, Int.toNat_natCast, toNat_sub1, toNat_add1, decide_true, decide_false, Bool.not_true, Bool.not_false, if_true, if_false, Bool.false_eq_true, reduceCtorEq]
    exact ⟨ret_bool (bad (by simp [hcols, b3])).symm, kall⟩
  | true =>
  simp (disch := omega) only [r_ln, r_pick, r_pickT, r_pickF, r_condT, r_condF, r_gdTT, r_gdFF, r_gdTF, r_gdFT, r_gqTT, r_gqFF, r_gqTF, r_gqFT, r_not, r_lss, r_leq, r_gtr, r_geq, r_eql, r_neq, r_add, r_sub, r_min2, r_max2, r_min3, r_max3, r_fa, r_iaS, r_iaA, r_ex2a, r_ex2b, r_ex3a, r_ex3b, r_ex3c, r_nc, r_keepE, Nat.zero_add, Nat.add_zero, Nat.mul_one, Int.toNat_natCast, toNat_sub1, toNat_add1, decide_true, decide_false, Bool.not_true, Bool.not_false, if_true, if_false, Bool.false_eq_true, reduceCtorEq, r_ld cW]
  refine r_use fok62 (refcolour_calls _ w3) rfl ?_
  rintro _ _ ⟨rfl, rfl⟩
  refine ⟨_, rfl, ?_⟩
  cases b4' : colB (tW (tl l i)) with
  | false =>
    simp (disch := omega) only [r_ln, r_pick, r_pickT, r_pickF, r_condT, r_condF, r_gdTT, r_gdFF, r_gdTF, r_gdFT, r_gqTT, r_gqFF, r_gqTF, r_gqFT, r_not, r_lss, r_leq, r_gtr, r_geq, r_eql, r_neq, r_add, r_sub, r_min2, r_max2, r_min3, r_max3, r_fa, r_iaS, r_iaA, r_ex2a, r_ex2b, r_ex3a, r_ex3b, r_ex3c, r_nc, r_keepE, Nat.zero_add, Nat.add_zero, Nat.mul_one, Int.toNat_natCast, toNat_sub1, toNat_add1, decide_true, decide_false, Bool.not_true, Bool.not_false, if_true, if_false, Bool.false_eq_true, reduceCtorEq]
    exact ⟨ret_bool (bad (by simp [hcols, b4'])).symm, kall⟩
  | true =>
  simp (disch := omega) only [r_ln, r_pick, r_pickT, r_pickF, r_condT, r_condF, r_gdTT, r_gdFF, r_gdTF, r_gdFT, r_gqTT, r_gqFF, r_gqTF, r_gqFT, r_not, r_lss, r_leq, r_gtr, r_geq, r_eql, r_neq, r_add, r_sub, r_min2, r_max2, r_min3, r_max3, r_fa, r_iaS, r_iaA, r_ex2a, r_ex2b, r_ex3a, r_ex3b, r_ex3c, r_nc, r_keepE, Nat.zero_add, Nat.add_zero, Nat.mul_one, Int.toNat_natCast, toNat_sub1, toNat_add1, decide_true, decide_false, Bool.not_true, Bool.not_false, if_true, if_false, Bool.false_eq_true, reduceCtorEq]
  refine ⟨fun t5 wq => ∃ k : Nat, k ≤ i ∧ t5 = .int .i64 k ∧ tl l i ∉ l.take k ∧ Kp w3 wq, fun t5 _ => i - (intOf t5).toNat, ⟨0, by omega, rfl, by simp, Kp.refl _⟩, ?_⟩
  rintro _ _ wq ⟨k, hk, rfl, hnk, hkq⟩
  by_cases hkl : k < i
  case neg =>
    have hkl' : ¬ (k : Int) < (i : Int) := by omega
    have : k = i := by omega
    subst this
    simp (disch := omega) only [r_ln, r_pick, r_pickT, r_pickF, r_condT, r_condF, r_gdTT, r_gdFF, r_gdTF, r_gdFT, r_gqTT, r_gqFF, r_gqTF, r_gqFT, r_not, r_lss, r_leq, r_gtr, r_geq, r_eql, r_neq, r_add, r_sub, r_min2, r_max2, r_min3, r_max3, r_fa, r_iaS, r_iaA, r_ex2a, r_ex2b, r_ex3a, r_ex3b, r_ex3c, r_nc, r_keepE, Nat.zero_add, Nat.add_zero, Nat.mul_one, Int.toNat_natCast, toNat_sub1, toNat_add1, decide_true, decide_false, Bool.not_true, Bool.not_false, if_true, if_false, Bool.false_eq_true, reduceCtorEq, hkl']
    refine ⟨⟨k + 1, by omega, by go_num, fun m hm => ?_, Kp.trans kall hkq⟩, by simp only [intOf]; omega⟩
    by_cases hki : m < k
    · exact hn m hki
    · have : m = k := by omega
      subst this
      simp [hcols, b1, b2, b3, b4', hnk]
  have hkl' : (k : Int) < (i : Int) := by omega
  simp (disch := omega) only [r_ln, r_pick, r_pickT, r_pickF, r_condT, r_condF, r_gdTT, r_gdFF, r_gdTF, r_gdFT, r_gqTT, r_gqFF, r_gqTF, r_gqFT, r_not, r_lss, r_leq, r_gtr, r_geq, r_eql, r_neq, r_add, r_sub, r_min2, r_max2, r_min3, r_max3, r_fa, r_iaS, r_iaA, r_ex2a, r_ex2b, r_ex3a, r_ex3b, r_ex3c, r_nc, r_keepE, Nat.zero_add, Nat.add_zero, Nat.mul_one, Int.toNat_natCast, toNat_sub1, toNat_add1, decide_true, decide_false, Bool.not_true, Bool.not_false, if_true, if_false, Bool.false_eq_true, reduceCtorEq, hkl']
  refine r_drew fun wx kx _ => ?_
  have hkx := Kp.trans hkq kx
  obtain ⟨b5, o5, _, e5, hld5, _⟩ := RdT.tile (i := k) (hr.kp (Kp.trans kall hkx)) (by omega)
  cases e5
  have e6 : ∀ K : Value → Prop, ldN 4 wx (.pointer (some ⟨b4, 0, none⟩)) K = K (tlV (tl l i)) := fun K => r_ldRow (n := 4) (block_below h3 hkx) rfl
  have hxk := tl_get (l := l) (i := k) (by omega)
  by_cases he : tl l k = tl l i
  · simp (disch := omega) only [r_ln, r_pick, r_pickT, r_pickF, r_condT, r_condF, r_gdTT, r_gdFF, r_gdTF, r_gdFT, r_gqTT, r_gqFF, r_gqTF, r_gqFT, r_not, r_lss, r_leq, r_gtr, r_geq, r_eql, r_neq, r_add, r_sub, r_min2, r_max2, r_min3, r_max3, r_fa, r_iaS, r_iaA, r_ex2a, r_ex2b, r_ex3a, r_ex3b, r_ex3c, r_nc, r_keepE, Nat.zero_add, Nat.add_zero, Nat.mul_one, Int.toNat_natCast, toNat_sub1, toNat_add1, decide_true, decide_false, Bool.not_true, Bool.not_false, if_true, if_false, Bool.false_eq_true, reduceCtorEq, hld5, e6, r_eq32, decide_eq_true he]
    have hm : tl l i ∈ l.take i := by
      rw [← he, List.mem_take_iff_getElem]
      exact ⟨k, by omega, (List.getElem?_eq_some_iff.1 hxk).2⟩
    exact ⟨ret_bool (bad (by simp [hm])).symm, Kp.trans kall hkx⟩
  · simp (disch := omega) only [r_ln, r_pick, r_pickT, r_pickF, r_condT, r_condF, r_gdTT, r_gdFF, r_gdTF, r_gdFT, r_gqTT, r_gqFF, r_gqTF, r_gqFT, r_not, r_lss, r_leq, r_gtr, r_geq, r_eql, r_neq, r_add, r_sub, r_min2, r_max2, r_min3, r_max3, r_fa, r_iaS, r_iaA, r_ex2a, r_ex2b, r_ex3a, r_ex3b, r_ex3c, r_nc, r_keepE, Nat.zero_add, Nat.add_zero, Nat.mul_one, Int.toNat_natCast, toNat_sub1, toNat_add1, decide_true, decide_false, Bool.not_true, Bool.not_false, if_true, if_false, Bool.false_eq_true, reduceCtorEq, hld5, e6, r_eq32, decide_eq_false he]
    refine ⟨⟨k + 1, by omega, by go_num, ?_, hkx⟩, by simp only [intOf]; omega⟩
    rw [List.take_add_one, hxk]
    simp only [Option.toList_some, List.mem_append, List.mem_singleton, not_or]
    exact ⟨hnk, fun e => he e.symm⟩

/-- The error of a set and measures. -/
def ordErr (l : List Tile) (w h : Int) : Int := if setB l = true ∧ sideB w = true ∧ sideB h = true then 0 else 2
theorem ordErr_cases (l : List Tile) (w h : Int) : ordErr l w h = 0 ∨ ordErr l w h = 2 := by
  unfold ordErr; split
  · exact .inl rfl
  · exact .inr rfl
theorem ord_ok {l : List Tile} {w h : Int} (e : ordErr l w h = 0) : IsSet l ∧ ∃ a b : Nat, w = a ∧ h = b ∧ (1 ≤ a ∧ a ≤ 4) ∧ (1 ≤ b ∧ b ≤ 4) := by
  unfold ordErr at e
  split at e
  · rename_i q
    obtain ⟨q1, q2, q3⟩ := q
    simp only [sideB, decide_eq_true_eq] at q2 q3
    exact ⟨isSet_of q1, w.toNat, h.toNat, by omega, by omega, by omega, by omega⟩
  · cases e

set_option maxRecDepth 100000 in
theorem board_calls {v : Value} {l : List Tile} (a b : Int) (w : World) (hr : RdT w v l) : Calls Try.prog 53 #[v, .int .i64 a, .int .i64 b] w fun e w' => e = .returned (.int .i64 (ordErr l a b)) ∧ Kp w w' := by
  refine lift53 ?_
  unfold S53
  refine r_use fok65 (valid_calls w hr) rfl ?_
  rintro _ w1 ⟨rfl, k1⟩
  refine ⟨_, rfl, ?_⟩
  unfold ordErr
  cases b1 : setB l with
  | false =>
    simp (disch := omega) only [r_ln, r_pick, r_pickT, r_pickF, r_condT, r_condF, r_gdTT, r_gdFF, r_gdTF, r_gdFT, r_gqTT, r_gqFF, r_gqTF, r_gqFT, r_not, r_lss, r_leq, r_gtr, r_geq, r_eql, r_neq, r_add, r_sub, r_min2, r_max2, r_min3, r_max3, r_fa, r_iaS, r_iaA, r_ex2a, r_ex2b, r_ex3a, r_ex3b, r_ex3c, r_nc, r_keepE, Nat.zero_add, Nat.add_zero, Nat.mul_one, Int.toNat_natCast, toNat_sub1, toNat_add1, decide_true, decide_false, Bool.not_true, Bool.not_false, if_true, if_false, Bool.false_eq_true, reduceCtorEq, false_and]
    exact ⟨trivial, k1⟩
  | true =>
  simp (disch := omega) only [r_ln, r_pick, r_pickT, r_pickF, r_condT, r_condF, r_gdTT, r_gdFF, r_gdTF, r_gdFT, r_gqTT, r_gqFF, r_gqTF, r_gqFT, r_not, r_lss, r_leq, r_gtr, r_geq, r_eql, r_neq, r_add, r_sub, r_min2, r_max2, r_min3, r_max3, r_fa, r_iaS, r_iaA, r_ex2a, r_ex2b, r_ex3a, r_ex3b, r_ex3c, r_nc, r_keepE, Nat.zero_add, Nat.add_zero, Nat.mul_one, Int.toNat_natCast, toNat_sub1, toNat_add1, decide_true, decide_false, Bool.not_true, Bool.not_false, if_true, if_false, Bool.false_eq_true, reduceCtorEq]
  refine r_use fok66 (side_calls a w1) rfl ?_
  rintro _ _ ⟨rfl, rfl⟩
  refine ⟨_, rfl, ?_⟩
  cases b2 : sideB a with
  | false =>
    simp (disch := omega) only [r_ln, r_pick, r_pickT, r_pickF, r_condT, r_condF, r_gdTT, r_gdFF, r_gdTF, r_gdFT, r_gqTT, r_gqFF, r_gqTF, r_gqFT, r_not, r_lss, r_leq, r_gtr, r_geq, r_eql, r_neq, r_add, r_sub, r_min2, r_max2, r_min3, r_max3, r_fa, r_iaS, r_iaA, r_ex2a, r_ex2b, r_ex3a, r_ex3b, r_ex3c, r_nc, r_keepE, Nat.zero_add, Nat.add_zero, Nat.mul_one, Int.toNat_natCast, toNat_sub1, toNat_add1, decide_true, decide_false, Bool.not_true, Bool.not_false, if_true, if_false, Bool.false_eq_true, reduceCtorEq, false_and, and_false]
    exact ⟨trivial, k1⟩
  | true =>
  simp (disch := omega) only [r_ln, r_pick, r_pickT, r_pickF, r_condT, r_condF, r_gdTT, r_gdFF, r_gdTF, r_gdFT, r_gqTT, r_gqFF, r_gqTF, r_gqFT, r_not, r_lss, r_leq, r_gtr, r_geq, r_eql, r_neq, r_add, r_sub, r_min2, r_max2, r_min3, r_max3, r_fa, r_iaS, r_iaA, r_ex2a, r_ex2b, r_ex3a, r_ex3b, r_ex3c, r_nc, r_keepE, Nat.zero_add, Nat.add_zero, Nat.mul_one, Int.toNat_natCast, toNat_sub1, toNat_add1, decide_true, decide_false, Bool.not_true, Bool.not_false, if_true, if_false, Bool.false_eq_true, reduceCtorEq]
  refine r_use fok66 (side_calls b w1) rfl ?_
  rintro _ _ ⟨rfl, rfl⟩
  refine ⟨_, rfl, ?_⟩
  cases b3 : sideB b with
  | false =>
    simp (disch := omega) only [r_ln, r_pick, r_pickT, r_pickF, r_condT, r_condF, r_gdTT, r_gdFF, r_gdTF, r_gdFT, r_gqTT, r_gqFF, r_gqTF, r_gqFT, r_not, r_lss, r_leq, r_gtr, r_geq, r_eql, r_neq, r_add, r_sub, r_min2, r_max2, r_min3, r_max3, r_fa, r_iaS, r_iaA, r_ex2a, r_ex2b, r_ex3a, r_ex3b, r_ex3c, r_nc, r_keepE, Nat.zero_add, Nat.add_zero, Nat.mul_one, Int.toNat_natCast, toNat_sub1, toNat_add1, decide_true, decide_false, Bool.not_true, Bool.not_false, if_true, if_false, Bool.false_eq_true, reduceCtorEq, false_and, and_false]
    exact ⟨trivial, k1⟩
  | true =>
    simp (disch := omega) only [r_ln, r_pick, r_pickT, r_pickF, r_condT, r_condF, r_gdTT, r_gdFF, r_gdTF, r_gdFT, r_gqTT, r_gqFF, r_gqTF, r_gqFT, r_not, r_lss, r_leq, r_gtr, r_geq, r_eql, r_neq, r_add, r_sub, r_min2, r_max2, r_min3, r_max3, r_fa, r_iaS, r_iaA, r_ex2a, r_ex2b, r_ex3a, r_ex3b, r_ex3c, r_nc, r_keepE, Nat.zero_add, Nat.add_zero, Nat.mul_one, Int.toNat_natCast, toNat_sub1, toNat_add1, decide_true, decide_false, Bool.not_true, Bool.not_false, if_true, if_false, Bool.false_eq_true, reduceCtorEq, and_self]
    exact ⟨trivial, k1⟩

set_option maxRecDepth 100000 in
theorem order_calls {v : Value} {l : List Tile} (a b : Int) (w : World) (hr : RdT w v l) : Calls Try.prog 23 #[v, .int .i64 a, .int .i64 b] w fun e w' => e = .returned (.int .i64 (ordErr l a b)) ∧ Kp w w' := by
  refine lift23 ?_
  unfold S23
  refine r_use fok35 (refset_calls w hr) rfl ?_
  rintro _ w1 ⟨rfl, k1⟩
  refine ⟨_, rfl, ?_⟩
  unfold ordErr
  cases b1 : setB l with
  | false =>
    simp (disch := omega) only [r_ln, r_pick, r_pickT, r_pickF, r_condT, r_condF, r_gdTT, r_gdFF, r_gdTF, r_gdFT, r_gqTT, r_gqFF, r_gqTF, r_gqFT, r_not, r_lss, r_leq, r_gtr, r_geq, r_eql, r_neq, r_add, r_sub, r_min2, r_max2, r_min3, r_max3, r_fa, r_iaS, r_iaA, r_ex2a, r_ex2b, r_ex3a, r_ex3b, r_ex3c, r_nc, r_keepE, Nat.zero_add, Nat.add_zero, Nat.mul_one, Int.toNat_natCast, toNat_sub1, toNat_add1, decide_true, decide_false, Bool.not_true, Bool.not_false, if_true, if_false, Bool.false_eq_true, reduceCtorEq, false_and]
    exact ⟨trivial, k1⟩
  | true =>
  simp (disch := omega) only [r_ln, r_pick, r_pickT, r_pickF, r_condT, r_condF, r_gdTT, r_gdFF, r_gdTF, r_gdFT, r_gqTT, r_gqFF, r_gqTF, r_gqFT, r_not, r_lss, r_leq, r_gtr, r_geq, r_eql, r_neq, r_add, r_sub, r_min2, r_max2, r_min3, r_max3, r_fa, r_iaS, r_iaA, r_ex2a, r_ex2b, r_ex3a, r_ex3b, r_ex3c, r_nc, r_keepE, Nat.zero_add, Nat.add_zero, Nat.mul_one, Int.toNat_natCast, toNat_sub1, toNat_add1, decide_true, decide_false, Bool.not_true, Bool.not_false, if_true, if_false, Bool.false_eq_true, reduceCtorEq]
  refine r_use fok68 (size_calls a w1) rfl ?_
  rintro _ _ ⟨rfl, rfl⟩
  refine ⟨_, rfl, ?_⟩
  cases b2 : sideB a with
  | false =>
    simp (disch := omega) only [r_ln, r_pick, r_pickT, r_pickF, r_condT, r_condF, r_gdTT, r_gdFF, r_gdTF, r_gdFT, r_gqTT, r_gqFF, r_gqTF, r_gqFT, r_not, r_lss, r_leq, r_gtr, r_geq, r_eql, r_neq, r_add, r_sub, r_min2, r_max2, r_min3, r_max3, r_fa, r_iaS, r_iaA, r_ex2a, r_ex2b, r_ex3a, r_ex3b, r_ex3c, r_nc, r_keepE, Nat.zero_add, Nat.add_zero, Nat.mul_one, Int.toNat_natCast, toNat_sub1, toNat_add1, decide_true, decide_false, Bool.not_true, Bool.not_false, if_true, if_false, Bool.false_eq_true, reduceCtorEq, false_and, and_false]
    exact ⟨trivial, k1⟩
  | true =>
  simp (disch := omega) only [r_ln, r_pick, r_pickT, r_pickF, r_condT, r_condF, r_gdTT, r_gdFF, r_gdTF, r_gdFT, r_gqTT, r_gqFF, r_gqTF, r_gqFT, r_not, r_lss, r_leq, r_gtr, r_geq, r_eql, r_neq, r_add, r_sub, r_min2, r_max2, r_min3, r_max3, r_fa, r_iaS, r_iaA, r_ex2a, r_ex2b, r_ex3a, r_ex3b, r_ex3c, r_nc, r_keepE, Nat.zero_add, Nat.add_zero, Nat.mul_one, Int.toNat_natCast, toNat_sub1, toNat_add1, decide_true, decide_false, Bool.not_true, Bool.not_false, if_true, if_false, Bool.false_eq_true, reduceCtorEq]
  refine r_use fok68 (size_calls b w1) rfl ?_
  rintro _ _ ⟨rfl, rfl⟩
  refine ⟨_, rfl, ?_⟩
  cases b3 : sideB b with
  | false =>
    simp (disch := omega) only [r_ln, r_pick, r_pickT, r_pickF, r_condT, r_condF, r_gdTT, r_gdFF, r_gdTF, r_gdFT, r_gqTT, r_gqFF, r_gqTF, r_gqFT, r_not, r_lss, r_leq, r_gtr, r_geq, r_eql, r_neq, r_add, r_sub, r_min2, r_max2, r_min3, r_max3, r_fa, r_iaS, r_iaA, r_ex2a, r_ex2b, r_ex3a, r_ex3b, r_ex3c, r_nc, r_keepE, Nat.zero_add, Nat.add_zero, Nat.mul_one, Int.toNat_natCast, toNat_sub1, toNat_add1, decide_true, decide_false, Bool.not_true, Bool.not_false, if_true, if_false, Bool.false_eq_true, reduceCtorEq, false_and, and_false]
    exact ⟨trivial, k1⟩
  | true =>
    simp (disch := omega) only [r_ln, r_pick, r_pickT, r_pickF, r_condT, r_condF, r_gdTT, r_gdFF, r_gdTF, r_gdFT, r_gqTT, r_gqFF, r_gqTF, r_gqFT, r_not, r_lss, r_leq, r_gtr, r_geq, r_eql, r_neq, r_add, r_sub, r_min2, r_max2, r_min3, r_max3, r_fa, r_iaS, r_iaA, r_ex2a, r_ex2b, r_ex3a, r_ex3b, r_ex3c, r_nc, r_keepE, Nat.zero_add, Nat.add_zero, Nat.mul_one, Int.toNat_natCast, toNat_sub1, toNat_add1, decide_true, decide_false, Bool.not_true, Bool.not_false, if_true, if_false, Bool.false_eq_true, reduceCtorEq, and_self]
    exact ⟨trivial, k1⟩

/-! ### numbers -/

theorem pow8_le {a : Nat} (h : a ≤ 4) : (8 : Int) ^ a ≤ 4096 := by
  have : a = 0 ∨ a = 1 ∨ a = 2 ∨ a = 3 ∨ a = 4 := by omega
  rcases this with rfl | rfl | rfl | rfl | rfl <;> decide
theorem pow8N_le {a : Nat} (h : a ≤ 4) : 8 ^ a ≤ 4096 := by
  have : a = 0 ∨ a = 1 ∨ a = 2 ∨ a = 3 ∨ a = 4 := by omega
  rcases this with rfl | rfl | rfl | rfl | rfl <;> decide

set_option maxRecDepth 100000 in
theorem codes_calls {a : Nat} (w : World) (ha : a ≤ 4) : Calls Try.prog 73 #[.int .i64 a] w fun e w' => e = .returned (.int .i64 ((8 ^ a : Nat) : Int)) ∧ w = w' := by
  refine lift73 ?_
  unfold S73
  refine ⟨fun t3 t5 wr => ∃ i : Nat, i ≤ a ∧ t5 = .int .i64 i ∧ t3 = .int .i64 ((8 ^ i : Nat) : Int) ∧ w = wr, fun _ t5 _ => a - (intOf t5).toNat, ⟨0, by omega, rfl, rfl, rfl⟩, ?_⟩
  rintro _ _ _ _ ⟨i, hi, rfl, rfl, rfl⟩
  by_cases hlt : i < a
  case neg =>
    have hlt' : ¬ (i : Int) < (a : Int) := by omega
    have : i = a := by omega
    subst this
    simp (disch := omega) only [r_ln, r_pick, r_pickT, r_pickF, r_condT, r_condF, r_gdTT, r_gdFF, r_gdTF, r_gdFT, r_gqTT, r_gqFF, r_gqTF, r_gqFT, r_not, r_lss, r_leq, r_gtr, r_geq, r_eql, r_neq, r_add, r_sub, r_min2, r_max2, r_min3, r_max3, r_fa, r_iaS, r_iaA, r_ex2a, r_ex2b, r_ex3a, r_ex3b, r_ex3c, r_nc, r_keepE, Nat.zero_add, Nat.add_zero, Nat.mul_one, Int.toNat_natCast, toNat_sub1, toNat_add1, decide_true, decide_false, Bool.not_true, Bool.not_false, if_true, if_false, Bool.false_eq_true, reduceCtorEq, hlt']
    exact ⟨by first | rfl | trivial, by first | rfl | trivial⟩
  have hlt' : (i : Int) < (a : Int) := by omega
  have hp := pow8N_le (show i ≤ 4 by omega)
  generalize hN : 8 ^ i = N at *
  simp (disch := omega) only [r_ln, r_pick, r_pickT, r_pickF, r_condT, r_condF, r_gdTT, r_gdFF, r_gdTF, r_gdFT, r_gqTT, r_gqFF, r_gqTF, r_gqFT, r_not, r_lss, r_leq, r_gtr, r_geq, r_eql, r_neq, r_add, r_sub, r_min2, r_max2, r_min3, r_max3, r_fa, r_iaS, r_iaA, r_ex2a, r_ex2b, r_ex3a, r_ex3b, r_ex3c, r_nc, r_keepE, Nat.zero_add, Nat.add_zero, Nat.mul_one, Int.toNat_natCast, toNat_sub1, toNat_add1, decide_true, decide_false, Bool.not_true, Bool.not_false, if_true, if_false, Bool.false_eq_true, reduceCtorEq, hlt', r_mul]
  exact ⟨⟨i + 1, by omega, by go_num, by rw [Nat.pow_succ, hN, Int.natCast_mul]; rfl, trivial⟩, by simp only [intOf]; omega⟩

/-- Numbers that are colours. -/
def Cols (c : List Int) : Prop := ∀ x ∈ c, 0 ≤ x ∧ x ≤ 7
theorem code_range {c : List Int} (h : Cols c) (hl : c.length ≤ 4) : 0 ≤ code c ∧ code c < 8 ^ c.length ∧ code c ≤ 4095 := by
  have h1 := code_bound h
  have h2 := pow8_le hl
  exact ⟨h1.1, h1.2, by omega⟩

set_option maxRecDepth 100000 in
theorem number_calls {v : Value} {c : List Int} (w : World) (hr : RdInts w v c) (hc : Cols c) (hl : c.length ≤ 4) : Calls Try.prog 58 #[v] w fun e w' => e = .returned (.int .i64 (code c)) ∧ w = w' := by
  obtain ⟨a, cap, rfl, _⟩ := hr.len
  refine lift58 ?_
  unfold S58
  simp only [r_ln, r_pick, r_pickT, r_pickF, r_condT, r_condF, r_gdTT, r_gdFF, r_gdTF, r_gdFT, r_gqTT, r_gqFF, r_gqTF, r_gqFT, r_not, r_lss, r_leq, r_gtr, r_geq, r_eql, r_neq, r_add, r_sub, r_min2, r_max2, r_min3, r_max3, r_fa, r_iaS, r_iaA, r_ex2a, r_ex2b, r_ex3a, r_ex3b, r_ex3c, r_nc, r_keepE, Nat.zero_add, Nat.add_zero, Nat.mul_one, Int.toNat_natCast, toNat_sub1, toNat_add1, decide_true, decide_false, Bool.not_true, Bool.not_false, if_true, if_false, Bool.false_eq_true, reduceCtorEq]
  refine ⟨fun t3 t8 wr => ∃ i : Nat, i ≤ c.length ∧ t8 = .int .i64 i ∧ t3 = .int .i64 (code (c.take i)) ∧ w = wr, fun _ t8 _ => c.length - (intOf t8).toNat, ⟨0, by omega, rfl, by simp [code], rfl⟩, ?_⟩
  rintro _ _ _ _ ⟨i, hi, rfl, rfl, rfl⟩
  by_cases hlt : i < c.length
  case neg =>
    have hlt' : ¬ (i : Int) < (c.length : Int) := by omega
    simp (disch := omega) only [r_ln, r_pick, r_pickT, r_pickF, r_condT, r_condF, r_gdTT, r_gdFF, r_gdTF, r_gdFT, r_gqTT, r_gqFF, r_gqTF, r_gqFT, r_not, r_lss, r_leq, r_gtr, r_geq, r_eql, r_neq, r_add, r_sub, r_min2, r_max2, r_min3, r_max3, r_fa, r_iaS, r_iaA, r_ex2a, r_ex2b, r_ex3a, r_ex3b, r_ex3c, r_nc, r_keepE, Nat.zero_add, Nat.add_zero, Nat.mul_one, Int.toNat_natCast, toNat_sub1, toNat_add1, decide_true, decide_false, Bool.not_true, Bool.not_false, if_true, if_false, Bool.false_eq_true, reduceCtorEq, hlt']
    rw [List.take_of_length_le (by omega)]
    exact ⟨by first | rfl | trivial, by first | rfl | trivial⟩
  have hlt' : (i : Int) < (c.length : Int) := by omega
  obtain ⟨b, off, _, e, hcell⟩ := hr.at hlt
  cases e
  have h1 := code_range (c := c.take i) (fun x hx => hc x (List.mem_of_mem_take hx)) (by rw [List.length_take]; omega)
  have h2 := hc (c.getD i 0) (getD_mem hlt)
  simp (disch := omega) only [r_ln, r_pick, r_pickT, r_pickF, r_condT, r_condF, r_gdTT, r_gdFF, r_gdTF, r_gdFT, r_gqTT, r_gqFF, r_gqTF, r_gqFT, r_not, r_lss, r_leq, r_gtr, r_geq, r_eql, r_neq, r_add, r_sub, r_min2, r_max2, r_min3, r_max3, r_fa, r_iaS, r_iaA, r_ex2a, r_ex2b, r_ex3a, r_ex3b, r_ex3c, r_nc, r_keepE, Nat.zero_add, Nat.add_zero, Nat.mul_one, Int.toNat_natCast, toNat_sub1, toNat_add1, decide_true, decide_false, Bool.not_true, Bool.not_false, if_true, if_false, Bool.false_eq_true, reduceCtorEq, hlt', r_ld hcell, r_mul]
  refine ⟨⟨i + 1, by omega, by go_num, ?_, trivial⟩, by simp only [intOf]; omega⟩
  rw [take_succ' _ _ hlt, code_push, getD_lt _ _ _ hlt]

end Go.Proofs.Ytgalbokmgffhkaa

/- Lifted texts, printed by program (gen.py): what each function's code asks. The ties are by the kernel. -/
namespace Go.Proofs.Ytgalbokmgffhkaa
open Go.Lf Go.RowKit

def S59 (t0 t1 : Value) (w : World) (R : Ending → World → Prop) : Prop :=
  boxW 22 t0 w fun t2 w =>
  boxW 3 t1 w fun t3 w =>
  boxW 73 (.slice none 0 0) w fun t5 w =>
  boxW 108 .nilFunc w fun t6 w =>
  stW Try.prog 108 t6 (.func (.func 104) #[] #[t3, t2, t5, t6]) w fun w =>
  ld1 w t6 fun t8 =>
  bdQ Try.prog 78 [] fun t9 =>
  callW Try.prog t8 [t9, (.int .i64 0)] w fun t10 w =>
  ld1 w t5 fun t11 =>
  R (.returned t11) w

def A59 : Ann where
  live := fun _ => []
  wr := fun _ _ => false
  sched := fun _ => .done

set_option maxRecDepth 100000 in
theorem ok59 : (codeOk Try.f59.ntmps A59 (Try.f59.body.getD .skip) 0 && Nat.ble 2 Try.f59.ntmps) = true := by kernel_rfl
set_option maxRecDepth 100000 in
theorem lift59 {t0 t1 : Value} {w : World} {R : Ending → World → Prop} (h : S59 t0 t1 w R) : Calls Try.prog 59 #[t0, t1] w R :=
  calls_of_cw (fn := Try.f59) (c := Try.f59.body.getD .skip) A59 mixes Try.func59 (by kernel_rfl) ok59
    ((by kernel_rfl : (S59 t0 t1 w R) = cw Try.prog A59 (Try.f59.body.getD .skip) 0 (bodyQ Try.prog Try.f59 R) (frOf #[t0, t1]) w).mp h)

def S104 (t0 t1 t2 t3 t4 t5 : Value) (w : World) (R : Ending → World → Prop) : Prop :=
  boxW 78 t0 w fun t6 w =>
  ld1 w t2 fun t12 =>
  binQ Try.prog w .eql 3 false t1 t12 fun t13 =>
  condW t13 (
    Drew w fun w =>
    ld1 w t3 fun t14 =>
    fa1 t6 0 fun t15 =>
    iaA 4 1 t15 (.int .i64 0) fun t16 =>
    ld1 w t16 fun t17 =>
    iaS 4 t14 t17 fun t18 =>
    fa1 t18 3 fun t19 =>
    ld1 w t19 fun t20 =>
    ld1 w t3 fun t21 =>
    binQ Try.prog w .sub 3 true t1 (.int .i64 1) fun t23 =>
    fa1 t6 0 fun t24 =>
    iaA 4 1 t24 t23 fun t25 =>
    ld1 w t25 fun t26 =>
    iaS 4 t21 t26 fun t27 =>
    fa1 t27 1 fun t28 =>
    ld1 w t28 fun t29 =>
    binQ Try.prog w .eql 3 false t20 t29 fun t30 =>
    fa1 t6 6 fun t31 =>
    stW Try.prog 4 t31 t30 w fun w =>
    ld1 w t4 fun t32 =>
    ldN 7 w t6 fun t33 =>
    bsW Try.prog 73 1 [(0, t33)] w fun t34 w =>
    semW Try.prog (apS [73, 73] 73 [t32, t34]) w fun t35 w =>
    stW Try.prog 73 t4 t35 w fun w =>
    R (.returned (.tuple #[])) w
  ) (
    ld1 w t3 fun t36 =>
    ln1 t36 fun t37 =>
    Loop1 (.int .i64 0) w fun _ t38 w next =>
      binQ Try.prog w .lss 3 false t38 t37 fun t39 =>
      condW t39 (
        Join (fun (k_2 : World → Prop) =>
          iaS 4 t36 t38 fun t41 =>
          ldN 4 w t41 fun t42 =>
          boxW 32 (.agg #[(.int .i64 0), (.int .i64 0), (.int .i64 0), (.int .i64 0)]) w fun t9 w =>
          stW Try.prog 32 t9 t42 w fun w =>
          Drew w fun w =>
          binQ Try.prog w .gtr 3 true t1 (.int .i64 0) fun t44 =>
          gdQ t44 true (fun k => ld1 w t3 k) fun t46 =>
          gdQ t44 true (fun k => k t1) fun t47 =>
          gdQ t44 true (fun k => binQ Try.prog w .sub 3 true t47 (.int .i64 1) k) fun t48 =>
          gdQ t44 true (fun k => fa1 t6 0 k) fun t49 =>
          gdQ t44 true (fun k => iaA 4 1 t49 t48 k) fun t50 =>
          gdQ t44 true (fun k => ld1 w t50 k) fun t51 =>
          gdQ t44 true (fun k => iaS 4 t46 t51 k) fun t52 =>
          gdQ t44 true (fun k => fa1 t52 1 k) fun t53 =>
          gdQ t44 true (fun k => ld1 w t53 k) fun t54 =>
          gdQ t44 true (fun k => fa1 t9 3 k) fun t55 =>
          gdQ t44 true (fun k => ld1 w t55 k) fun t56 =>
          gdQ t44 true (fun k => binQ Try.prog w .neq 3 false t54 t56 k) fun t57 =>
          pickQ t44 t57 (.bool false) fun t58 =>
          condW t58 (
            k_2 w
          ) (
            ldN 7 w t6 fun t59 =>
            boxW 78 (.agg #[(.int .i64 0), (.int .i64 0), (.int .i64 0), (.int .i64 0), (.int .i64 0), (.int .i64 0), (.bool false)]) w fun t10 w =>
            stW Try.prog 78 t10 t59 w fun w =>
            Drew w fun w =>
            ∃ X : Nat → Prop,
            takeX X w (fun w k => k t1) fun t60 =>
            takeX X w (fun w k => k t38) fun t61 =>
            takeX X w (fun w k => fa1 t6 4 k) fun t62 =>
            takeX X w (fun w k => ld1 w t62 k) fun t63 =>
            takeX X w (fun w k => binQ Try.prog w .mul 3 true t63 (.int .i64 8) k) fun t64 =>
            takeX X w (fun w k => fa1 t9 0 k) fun t65 =>
            takeX X w (fun w k => ld1 w t65 k) fun t66 =>
            takeX X w (fun w k => binQ Try.prog w .add 3 false t64 t66 k) fun t67 =>
            takeX X w (fun w k => fa1 t6 5 k) fun t68 =>
            takeX X w (fun w k => ld1 w t68 k) fun t69 =>
            takeX X w (fun w k => binQ Try.prog w .mul 3 true t69 (.int .i64 8) k) fun t70 =>
            takeX X w (fun w k => fa1 t9 2 k) fun t71 =>
            takeX X w (fun w k => ld1 w t71 k) fun t72 =>
            takeX X w (fun w k => binQ Try.prog w .add 3 false t70 t72 k) fun t73 =>
            takeX X w (fun w k => fa1 t10 0 k) fun t74 =>
            takeX X w (fun w k => iaA 4 1 t74 t60 k) fun t75 =>
            stW Try.prog 3 t75 t61 w <| keepW X w fun w =>
            takeX X w (fun w k => fa1 t10 4 k) fun t76 =>
            stW Try.prog 3 t76 t67 w <| keepW X w fun w =>
            takeX X w (fun w k => fa1 t10 5 k) fun t77 =>
            stW Try.prog 3 t77 t73 w fun w =>
            ld1 w t5 fun t78 =>
            ldN 7 w t10 fun t79 =>
            binQ Try.prog w .add 3 true t1 (.int .i64 1) fun t81 =>
            callW Try.prog t78 [t79, t81] w fun t82 w =>
            k_2 w
          )
        ) fun w =>
        binQ Try.prog w .add 3 true t38 (.int .i64 1) fun t83_2 =>
        next t83_2 w
      ) (
        R (.returned (.tuple #[])) w
      )
  )

def A104 : Ann where
  live := fun
    | 0 => [38]
    | _ => []
  wr := fun
    | 0 => fun i => (Nat.ble 8 i && Nat.ble i 10) || (Nat.ble 38 i && Nat.ble i 83)
    | _ => fun _ => false
  sched := fun
    | 2 => (.take 0 (.take 1 (.take 2 (.take 3 (.take 4 (.take 5 (.take 6 (.take 7 (.take 8 (.take 9 (.take 10 (.take 11 (.take 12 (.take 13 (.take 14 (.take 15 (.take 16 (.take 17 (.bar 18 .done)))))))))))))))))))
    | 7 => (.take 0 (.take 1 (.take 2 (.take 3 (.take 4 (.take 5 (.take 6 (.take 7 (.take 8 (.take 9 (.take 10 (.take 11 (.take 12 (.take 13 (.take 14 (.take 15 .done))))))))))))))))
    | 9 => (.cls (.take 0 (.take 1 (.take 2 (.take 3 (.take 4 (.take 5 (.take 6 (.take 7 (.take 8 (.take 9 (.take 10 (.take 11 (.take 12 (.take 13 (.take 14 (.take 15 (.eff 16 (.take 17 (.eff 18 (.take 19 (.bar 20 .done))))))))))))))))))))))
    | _ => .done

set_option maxRecDepth 100000 in
theorem ok104 : (codeOk Try.f104.ntmps A104 (Try.f104.body.getD .skip) 0 && Nat.ble 6 Try.f104.ntmps) = true := by kernel_rfl
set_option maxRecDepth 100000 in
theorem lift104 {t0 t1 t2 t3 t4 t5 : Value} {w : World} {R : Ending → World → Prop} (h : S104 t0 t1 t2 t3 t4 t5 w R) : Calls Try.prog 104 #[t0, t1, t2, t3, t4, t5] w R :=
  calls_of_cw (fn := Try.f104) (c := Try.f104.body.getD .skip) A104 mixes Try.func104 (by kernel_rfl) ok104
    ((by kernel_rfl : (S104 t0 t1 t2 t3 t4 t5 w R) = cw Try.prog A104 (Try.f104.body.getD .skip) 0 (bodyQ Try.prog Try.f104 R) (frOf #[t0, t1, t2, t3, t4, t5]) w).mp h)

def S71 (t0 t1 t2 : Value) (w : World) (R : Ending → World → Prop) : Prop :=
  Loop2 t1 (.int .i64 0) w fun _ t1_2 t11 w next =>
    binQ Try.prog w .lss 3 false t11 t2 fun t12 =>
    condW t12 (
      ln1 t1_2 fun t14 =>
      mkW Try.prog 30 t14 t14 w fun t15 w =>
      ln1 t0 fun t17 =>
      Loop1 (.int .i64 0) w fun _ t18 w next_2 =>
        binQ Try.prog w .lss 3 false t18 t17 fun t19 =>
        condW t19 (
          iaS 7 t0 t18 fun t20 =>
          ldN 7 w t20 fun t21 =>
          boxW 78 (.agg #[(.int .i64 0), (.int .i64 0), (.int .i64 0), (.int .i64 0), (.int .i64 0), (.int .i64 0), (.bool false)]) w fun t9 w =>
          stW Try.prog 78 t9 t21 w fun w =>
          Drew w fun w =>
          fa1 t9 5 fun t23 =>
          ld1 w t23 fun t24 =>
          fa1 t9 5 fun t26 =>
          ld1 w t26 fun t27 =>
          iaS 1 t15 t27 fun t28 =>
          ld1 w t28 fun t29 =>
          fa1 t9 4 fun t31 =>
          ld1 w t31 fun t32 =>
          iaS 1 t1_2 t32 fun t33 =>
          ld1 w t33 fun t34 =>
          binQ Try.prog w .add 3 false t29 t34 fun t35 =>
          mnQ false [t35, (.int .i64 1099511627777)] fun t36 =>
          iaS 1 t15 t24 fun t37 =>
          stW Try.prog 3 t37 t36 w fun w =>
          binQ Try.prog w .add 3 true t18 (.int .i64 1) fun t38 =>
          next_2 t38 w
        ) (
          binQ Try.prog w .add 3 true t11 (.int .i64 1) fun t40 =>
          next t15 t40 w
        )
    ) (
      R (.returned t1_2) w
    )

def A71 : Ann where
  live := fun
    | 0 => [1, 11]
    | 2 => [18]
    | _ => []
  wr := fun
    | 0 => fun i => Nat.beq i 1 || Nat.beq i 7 || Nat.beq i 9 || (Nat.ble 11 i && Nat.ble i 40)
    | 2 => fun i => Nat.beq i 9 || (Nat.ble 18 i && Nat.ble i 38)
    | _ => fun _ => false
  sched := fun
    | 7 => (.take 0 (.take 1 (.take 2 (.take 3 (.take 4 (.take 5 (.take 6 (.take 7 (.take 8 (.take 9 (.take 10 (.take 11 (.take 12 (.take 13 (.take 14 (.take 15 (.bar 16 .done)))))))))))))))))
    | _ => .done

set_option maxRecDepth 100000 in
theorem ok71 : (codeOk Try.f71.ntmps A71 (Try.f71.body.getD .skip) 0 && Nat.ble 3 Try.f71.ntmps) = true := by kernel_rfl
set_option maxRecDepth 100000 in
theorem lift71 {t0 t1 t2 : Value} {w : World} {R : Ending → World → Prop} (h : S71 t0 t1 t2 w R) : Calls Try.prog 71 #[t0, t1, t2] w R :=
  calls_of_cw (fn := Try.f71) (c := Try.f71.body.getD .skip) A71 mixes Try.func71 (by kernel_rfl) ok71
    ((by kernel_rfl : (S71 t0 t1 t2 w R) = cw Try.prog A71 (Try.f71.body.getD .skip) 0 (bodyQ Try.prog Try.f71 R) (frOf #[t0, t1, t2]) w).mp h)

def S74 (t0 : Value) (w : World) (R : Ending → World → Prop) : Prop :=
  binQ Try.prog w .gtr 3 true t0 (.int .i64 1099511627776) fun t5 =>
  condW t5 (
    R (.returned (.tuple #[(.int .i64 0), (.int .i64 8)])) w
  ) (
    R (.returned (.tuple #[t0, (.int .i64 0)])) w
  )

def A74 : Ann where
  live := fun _ => []
  wr := fun _ _ => false
  sched := fun _ => .done

set_option maxRecDepth 100000 in
theorem ok74 : (codeOk Try.f74.ntmps A74 (Try.f74.body.getD .skip) 0 && Nat.ble 1 Try.f74.ntmps) = true := by kernel_rfl
set_option maxRecDepth 100000 in
theorem lift74 {t0 : Value} {w : World} {R : Ending → World → Prop} (h : S74 t0 w R) : Calls Try.prog 74 #[t0] w R :=
  calls_of_cw (fn := Try.f74) (c := Try.f74.body.getD .skip) A74 mixes Try.func74 (by kernel_rfl) ok74
    ((by kernel_rfl : (S74 t0 w R) = cw Try.prog A74 (Try.f74.body.getD .skip) 0 (bodyQ Try.prog Try.f74 R) (frOf #[t0]) w).mp h)

def S76 (t0 t1 t2 : Value) (w : World) (R : Ending → World → Prop) : Prop :=
  bsW Try.prog 91 1 [(0, (.bool true))] w fun t12 w =>
  callW Try.prog (.func (.func 73) #[] #[]) [t1] w fun t14 w =>
  callW Try.prog (.func (.func 106) #[] #[]) [t12, t14] w fun t15 w =>
  bsW Try.prog 88 1 [(0, t15)] w fun t16 w =>
  Loop2 t16 (.int .i64 1) w fun _ t7 t8 w next =>
    binQ Try.prog w .leq 3 false t8 t2 fun t19 =>
    condW t19 (
      callW Try.prog (.func (.func 73) #[] #[]) [t1] w fun t23 w =>
      mkW Try.prog 91 t23 t23 w fun t24 w =>
      ln1 t0 fun t26 =>
      Loop1 (.int .i64 0) w fun _ t27 w next_2 =>
        binQ Try.prog w .lss 3 false t27 t26 fun t28 =>
        condW t28 (
          iaS 7 t0 t27 fun t29 =>
          ldN 7 w t29 fun t30 =>
          boxW 78 (.agg #[(.int .i64 0), (.int .i64 0), (.int .i64 0), (.int .i64 0), (.int .i64 0), (.int .i64 0), (.bool false)]) w fun t11 w =>
          stW Try.prog 78 t11 t30 w fun w =>
          Drew w fun w =>
          fa1 t11 4 fun t32 =>
          ld1 w t32 fun t33 =>
          fa1 t11 4 fun t35 =>
          ld1 w t35 fun t36 =>
          iaS 1 t24 t36 fun t37 =>
          ld1 w t37 fun t38 =>
          gdQ t38 false (fun k => k t7) fun t40 =>
          gdQ t38 false (fun k => k t8) fun t41 =>
          gdQ t38 false (fun k => binQ Try.prog w .sub 3 true t41 (.int .i64 1) k) fun t42 =>
          gdQ t38 false (fun k => iaS 1 t40 t42 k) fun t43 =>
          gdQ t38 false (fun k => ld1 w t43 k) fun t44 =>
          gdQ t38 false (fun k => fa1 t11 5 k) fun t45 =>
          gdQ t38 false (fun k => ld1 w t45 k) fun t46 =>
          gdQ t38 false (fun k => iaS 1 t44 t46 k) fun t47 =>
          gdQ t38 false (fun k => ld1 w t47 k) fun t48 =>
          pickQ t38 (.bool true) t48 fun t49 =>
          iaS 1 t24 t33 fun t50 =>
          stW Try.prog 4 t50 t49 w fun w =>
          binQ Try.prog w .add 3 true t27 (.int .i64 1) fun t51 =>
          next_2 t51 w
        ) (
          bsW Try.prog 88 1 [(0, t24)] w fun t54 w =>
          semW Try.prog (apS [88, 88] 88 [t7, t54]) w fun t55 w =>
          binQ Try.prog w .add 3 true t8 (.int .i64 1) fun t21 =>
          next t55 t21 w
        )
    ) (
      R (.returned t7) w
    )

def A76 : Ann where
  live := fun
    | 0 => [7, 8]
    | 2 => [27]
    | _ => []
  wr := fun
    | 0 => fun i => (Nat.ble 7 i && Nat.ble i 9) || Nat.beq i 11 || (Nat.ble 17 i && Nat.ble i 55)
    | 2 => fun i => Nat.beq i 11 || (Nat.ble 27 i && Nat.ble i 51)
    | _ => fun _ => false
  sched := fun
    | 9 => (.take 0 (.take 1 (.take 2 (.take 3 (.take 4 (.take 5 (.take 6 (.take 7 (.take 8 (.take 9 (.take 10 (.take 11 (.take 12 (.take 13 (.take 14 (.take 15 (.take 16 (.take 17 (.take 18 (.take 19 (.bar 20 .done)))))))))))))))))))))
    | _ => .done

set_option maxRecDepth 100000 in
theorem ok76 : (codeOk Try.f76.ntmps A76 (Try.f76.body.getD .skip) 0 && Nat.ble 3 Try.f76.ntmps) = true := by kernel_rfl
set_option maxRecDepth 100000 in
theorem lift76 {t0 t1 t2 : Value} {w : World} {R : Ending → World → Prop} (h : S76 t0 t1 t2 w R) : Calls Try.prog 76 #[t0, t1, t2] w R :=
  calls_of_cw (fn := Try.f76) (c := Try.f76.body.getD .skip) A76 mixes Try.func76 (by kernel_rfl) ok76
    ((by kernel_rfl : (S76 t0 t1 t2 w R) = cw Try.prog A76 (Try.f76.body.getD .skip) 0 (bodyQ Try.prog Try.f76 R) (frOf #[t0, t1, t2]) w).mp h)

def S105 (t0 t1 : Value) (w : World) (R : Ending → World → Prop) : Prop :=
  condW (.bool false) (
    cv1 .u32 t0 fun t12 =>
    cv1 .u32 t1 fun t14 =>
    callW Try.prog (.func (.func 119) #[] #[]) [t12, t14] w fun t15 w =>
    exQ t15 0 fun t16 =>
    exQ t15 1 fun t17 =>
    cv1 .u64 t16 fun t19 =>
    cv1 .u64 t17 fun t21 =>
    R (.returned (.tuple #[t19, t21])) w
  ) (
    callW Try.prog (.func (.func 120) #[] #[]) [t0, t1] w fun t25 w =>
    exQ t25 0 fun t26 =>
    exQ t25 1 fun t27 =>
    R (.returned (.tuple #[t26, t27])) w
  )

def A105 : Ann where
  live := fun _ => []
  wr := fun _ _ => false
  sched := fun _ => .done

set_option maxRecDepth 100000 in
theorem ok105 : (codeOk Try.f105.ntmps A105 (Try.f105.body.getD .skip) 0 && Nat.ble 2 Try.f105.ntmps) = true := by kernel_rfl
set_option maxRecDepth 100000 in
theorem lift105 {t0 t1 : Value} {w : World} {R : Ending → World → Prop} (h : S105 t0 t1 w R) : Calls Try.prog 105 #[t0, t1] w R :=
  calls_of_cw (fn := Try.f105) (c := Try.f105.body.getD .skip) A105 mixes Try.func105 (by kernel_rfl) ok105
    ((by kernel_rfl : (S105 t0 t1 w R) = cw Try.prog A105 (Try.f105.body.getD .skip) 0 (bodyQ Try.prog Try.f105 R) (frOf #[t0, t1]) w).mp h)

def S120 (t0 t1 : Value) (w : World) (R : Ending → World → Prop) : Prop :=
  binQ Try.prog w .and 125 true t0 (.int .u64 4294967295) fun t15 =>
  binQ Try.prog w .shr 125 true t0 (.int .u64 32) fun t17 =>
  binQ Try.prog w .and 125 true t1 (.int .u64 4294967295) fun t19 =>
  binQ Try.prog w .shr 125 true t1 (.int .u64 32) fun t21 =>
  binQ Try.prog w .mul 125 false t15 t19 fun t24 =>
  binQ Try.prog w .mul 125 false t17 t19 fun t27 =>
  binQ Try.prog w .shr 125 true t24 (.int .u64 32) fun t29 =>
  binQ Try.prog w .add 125 false t27 t29 fun t30 =>
  binQ Try.prog w .and 125 true t30 (.int .u64 4294967295) fun t32 =>
  binQ Try.prog w .shr 125 true t30 (.int .u64 32) fun t34 =>
  binQ Try.prog w .mul 125 false t15 t21 fun t38 =>
  binQ Try.prog w .add 125 false t32 t38 fun t39 =>
  binQ Try.prog w .mul 125 false t17 t21 fun t42 =>
  binQ Try.prog w .add 125 false t42 t34 fun t44 =>
  binQ Try.prog w .shr 125 true t39 (.int .u64 32) fun t46 =>
  binQ Try.prog w .add 125 false t44 t46 fun t47 =>
  binQ Try.prog w .mul 125 false t0 t1 fun t50 =>
  R (.returned (.tuple #[t47, t50])) w

def A120 : Ann where
  live := fun _ => []
  wr := fun _ _ => false
  sched := fun _ => .done

set_option maxRecDepth 100000 in
theorem ok120 : (codeOk Try.f120.ntmps A120 (Try.f120.body.getD .skip) 0 && Nat.ble 2 Try.f120.ntmps) = true := by kernel_rfl
set_option maxRecDepth 100000 in
theorem lift120 {t0 t1 : Value} {w : World} {R : Ending → World → Prop} (h : S120 t0 t1 w R) : Calls Try.prog 120 #[t0, t1] w R :=
  calls_of_cw (fn := Try.f120) (c := Try.f120.body.getD .skip) A120 mixes Try.func120 (by kernel_rfl) ok120
    ((by kernel_rfl : (S120 t0 t1 w R) = cw Try.prog A120 (Try.f120.body.getD .skip) 0 (bodyQ Try.prog Try.f120 R) (frOf #[t0, t1]) w).mp h)

def S72 (t0 t1 : Value) (w : World) (R : Ending → World → Prop) : Prop :=
  binQ Try.prog w .lss 3 true t1 (.int .i64 0) fun t10 =>
  Join (fun (k_3 : World → Prop) =>
    condW t10 (
      False
    ) (
      k_3 w
    )
  ) fun w =>
  ln1 t0 fun t14_2 =>
  cv1 .u64 t14_2 fun t15_2 =>
  cv1 .u64 t1 fun t17_2 =>
  callW Try.prog (.func (.func 105) #[] #[]) [t15_2, t17_2] w fun t18_2 w =>
  exQ t18_2 0 fun t19_2 =>
  exQ t18_2 1 fun t20_2 =>
  binQ Try.prog w .gtr 109 true t19_2 (.int .u64 0) fun t22_2 =>
  gd t22_2 false (fun k => k t20_2 w) w fun t24_2 w =>
  gd t22_2 false (fun k => binQ Try.prog w .gtr 109 true t24_2 (.int .u64 9223372036854775807) fun v => k v w) w fun t25_2 w =>
  pickQ t22_2 (.bool true) t25_2 fun t26_2 =>
  Join (fun (k_4 : World → Prop) =>
    condW t26_2 (
      False
    ) (
      k_4 w
    )
  ) fun w =>
  cv1 .i64 t20_2 fun t29_4 =>
  mkW Try.prog 30 t29_4 t29_4 w fun t30_4 w =>
  semW Try.prog (cpS [30, 30] 3 [t30_4, t0]) w fun t33_4 w =>
  Loop1 t33_4 w fun _ t8_7 w next_4 =>
    ln1 t30_4 fun t36_4 =>
    binQ Try.prog w .lss 3 false t8_7 t36_4 fun t37_4 =>
    condW t37_4 (
      Drew w fun w =>
      ∃ X_4 : Nat → Prop,
      takeX X_4 w (fun w k => k t8_7) fun t38_4 =>
      takeX X_4 w (fun w k => k t30_4) fun t39_4 =>
      takeX X_4 w (fun w k => k t8_7) fun t40_4 =>
      takeX X_4 w (fun w k => slS 1 t39_4 (some t40_4) none k) fun t41_4 =>
      takeX X_4 w (fun w k => k t30_4) fun t42_4 =>
      takeX X_4 w (fun w k => k t8_7) fun t43_4 =>
      takeX X_4 w (fun w k => slS 1 t42_4 none (some t43_4) k) fun t44_4 =>
      semW Try.prog (cpS [30, 30] 3 [t41_4, t44_4]) w <| keepX X_4 w fun t45_4 w =>
      takeX X_4 w (fun w k => binQ Try.prog w .add 3 false t38_4 t45_4 k) fun t46_4 =>
      takeX X_4 w (fun w k => k t46_4) fun t8_8 =>
      next_4 t8_8 w
    ) (
      R (.returned t30_4) w
    )

def A72 : Ann where
  live := fun
    | 0 => [8]
    | _ => []
  wr := fun
    | 0 => fun i => Nat.beq i 8 || (Nat.ble 34 i && Nat.ble i 46)
    | _ => fun _ => false
  sched := fun
    | 9 => (.cls (.take 0 (.take 1 (.take 2 (.take 3 (.take 4 (.take 5 (.take 6 (.eff 7 (.take 8 (.take 9 .done)))))))))))
    | _ => .done

set_option maxRecDepth 100000 in
theorem ok72 : (codeOk Try.f72.ntmps A72 (Try.f72.body.getD .skip) 0 && Nat.ble 2 Try.f72.ntmps) = true := by kernel_rfl
set_option maxRecDepth 100000 in
theorem lift72 {t0 t1 : Value} {w : World} {R : Ending → World → Prop} (h : S72 t0 t1 w R) : Calls Try.prog 72 #[t0, t1] w R :=
  calls_of_cw (fn := Try.f72) (c := Try.f72.body.getD .skip) A72 mixes Try.func72 (by kernel_rfl) ok72
    ((by kernel_rfl : (S72 t0 t1 w R) = cw Try.prog A72 (Try.f72.body.getD .skip) 0 (bodyQ Try.prog Try.f72 R) (frOf #[t0, t1]) w).mp h)

def S106 (t0 t1 : Value) (w : World) (R : Ending → World → Prop) : Prop :=
  binQ Try.prog w .lss 3 true t1 (.int .i64 0) fun t10 =>
  Join (fun (k_3 : World → Prop) =>
    condW t10 (
      False
    ) (
      k_3 w
    )
  ) fun w =>
  ln1 t0 fun t14_2 =>
  cv1 .u64 t14_2 fun t15_2 =>
  cv1 .u64 t1 fun t17_2 =>
  callW Try.prog (.func (.func 105) #[] #[]) [t15_2, t17_2] w fun t18_2 w =>
  exQ t18_2 0 fun t19_2 =>
  exQ t18_2 1 fun t20_2 =>
  binQ Try.prog w .gtr 109 true t19_2 (.int .u64 0) fun t22_2 =>
  gd t22_2 false (fun k => k t20_2 w) w fun t24_2 w =>
  gd t22_2 false (fun k => binQ Try.prog w .gtr 109 true t24_2 (.int .u64 9223372036854775807) fun v => k v w) w fun t25_2 w =>
  pickQ t22_2 (.bool true) t25_2 fun t26_2 =>
  Join (fun (k_4 : World → Prop) =>
    condW t26_2 (
      False
    ) (
      k_4 w
    )
  ) fun w =>
  cv1 .i64 t20_2 fun t29_4 =>
  mkW Try.prog 91 t29_4 t29_4 w fun t30_4 w =>
  semW Try.prog (cpS [91, 91] 3 [t30_4, t0]) w fun t33_4 w =>
  Loop1 t33_4 w fun _ t8_7 w next_4 =>
    ln1 t30_4 fun t36_4 =>
    binQ Try.prog w .lss 3 false t8_7 t36_4 fun t37_4 =>
    condW t37_4 (
      Drew w fun w =>
      ∃ X_4 : Nat → Prop,
      takeX X_4 w (fun w k => k t8_7) fun t38_4 =>
      takeX X_4 w (fun w k => k t30_4) fun t39_4 =>
      takeX X_4 w (fun w k => k t8_7) fun t40_4 =>
      takeX X_4 w (fun w k => slS 1 t39_4 (some t40_4) none k) fun t41_4 =>
      takeX X_4 w (fun w k => k t30_4) fun t42_4 =>
      takeX X_4 w (fun w k => k t8_7) fun t43_4 =>
      takeX X_4 w (fun w k => slS 1 t42_4 none (some t43_4) k) fun t44_4 =>
      semW Try.prog (cpS [91, 91] 3 [t41_4, t44_4]) w <| keepX X_4 w fun t45_4 w =>
      takeX X_4 w (fun w k => binQ Try.prog w .add 3 false t38_4 t45_4 k) fun t46_4 =>
      takeX X_4 w (fun w k => k t46_4) fun t8_8 =>
      next_4 t8_8 w
    ) (
      R (.returned t30_4) w
    )

def A106 : Ann where
  live := fun
    | 0 => [8]
    | _ => []
  wr := fun
    | 0 => fun i => Nat.beq i 8 || (Nat.ble 34 i && Nat.ble i 46)
    | _ => fun _ => false
  sched := fun
    | 9 => (.cls (.take 0 (.take 1 (.take 2 (.take 3 (.take 4 (.take 5 (.take 6 (.eff 7 (.take 8 (.take 9 .done)))))))))))
    | _ => .done

set_option maxRecDepth 100000 in
theorem ok106 : (codeOk Try.f106.ntmps A106 (Try.f106.body.getD .skip) 0 && Nat.ble 2 Try.f106.ntmps) = true := by kernel_rfl
set_option maxRecDepth 100000 in
theorem lift106 {t0 t1 : Value} {w : World} {R : Ending → World → Prop} (h : S106 t0 t1 w R) : Calls Try.prog 106 #[t0, t1] w R :=
  calls_of_cw (fn := Try.f106) (c := Try.f106.body.getD .skip) A106 mixes Try.func106 (by kernel_rfl) ok106
    ((by kernel_rfl : (S106 t0 t1 w R) = cw Try.prog A106 (Try.f106.body.getD .skip) 0 (bodyQ Try.prog Try.f106 R) (frOf #[t0, t1]) w).mp h)

def S25 (t0 t1 t2 : Value) (w : World) (R : Ending → World → Prop) : Prop :=
  callW Try.prog (.func (.func 53) #[] #[]) [t0, t1, t2] w fun t15 w =>
  binQ Try.prog w .neq 26 true t15 (.int .i64 0) fun t17 =>
  condW t17 (
    R (.returned (.tuple #[(.int .i64 0), t15])) w
  ) (
    callW Try.prog (.func (.func 59) #[] #[]) [t0, t1] w fun t21 w =>
    bsW Try.prog 30 1 [(0, (.int .i64 1))] w fun t22 w =>
    callW Try.prog (.func (.func 73) #[] #[]) [t1] w fun t24 w =>
    callW Try.prog (.func (.func 72) #[] #[]) [t22, t24] w fun t25 w =>
    callW Try.prog (.func (.func 71) #[] #[]) [t21, t25, t2] w fun t27 w =>
    ln1 t27 fun t28 =>
    Loop2 (.int .i64 0) (.int .i64 0) w fun _ t9 t29 w next =>
      binQ Try.prog w .lss 3 false t29 t28 fun t30 =>
      condW t30 (
        iaS 1 t27 t29 fun t31 =>
        ld1 w t31 fun t32 =>
        binQ Try.prog w .add 3 false t9 t32 fun t35 =>
        mnQ false [t35, (.int .i64 1099511627777)] fun t36 =>
        binQ Try.prog w .add 3 true t29 (.int .i64 1) fun t37 =>
        next t36 t37 w
      ) (
        callW Try.prog (.func (.func 74) #[] #[]) [t9] w fun t39 w =>
        exQ t39 0 fun t40 =>
        exQ t39 1 fun t41 =>
        R (.returned (.tuple #[t40, t41])) w
      )
  )

def A25 : Ann where
  live := fun
    | 0 => [9, 29]
    | _ => []
  wr := fun
    | 0 => fun i => Nat.beq i 9 || Nat.beq i 11 || (Nat.ble 29 i && Nat.ble i 37)
    | _ => fun _ => false
  sched := fun _ => .done

set_option maxRecDepth 100000 in
theorem ok25 : (codeOk Try.f25.ntmps A25 (Try.f25.body.getD .skip) 0 && Nat.ble 3 Try.f25.ntmps) = true := by kernel_rfl
set_option maxRecDepth 100000 in
theorem lift25 {t0 t1 t2 : Value} {w : World} {R : Ending → World → Prop} (h : S25 t0 t1 t2 w R) : Calls Try.prog 25 #[t0, t1, t2] w R :=
  calls_of_cw (fn := Try.f25) (c := Try.f25.body.getD .skip) A25 mixes Try.func25 (by kernel_rfl) ok25
    ((by kernel_rfl : (S25 t0 t1 t2 w R) = cw Try.prog A25 (Try.f25.body.getD .skip) 0 (bodyQ Try.prog Try.f25 R) (frOf #[t0, t1, t2]) w).mp h)

theorem fok59 : fnOk Try.prog 59 = true := by kernel_rfl
theorem fok104 : fnOk Try.prog 104 = true := by kernel_rfl
theorem fok71 : fnOk Try.prog 71 = true := by kernel_rfl
theorem fok74 : fnOk Try.prog 74 = true := by kernel_rfl
theorem fok76 : fnOk Try.prog 76 = true := by kernel_rfl
theorem fok105 : fnOk Try.prog 105 = true := by kernel_rfl
theorem fok120 : fnOk Try.prog 120 = true := by kernel_rfl
theorem fok72 : fnOk Try.prog 72 = true := by kernel_rfl
theorem fok106 : fnOk Try.prog 106 = true := by kernel_rfl
theorem fok25 : fnOk Try.prog 25 = true := by kernel_rfl
end Go.Proofs.Ytgalbokmgffhkaa

/- Contract: rows of tiles. -/
namespace Go.Proofs.Ytgalbokmgffhkaa
open Go.Lf Go.RowKit Go.Wg

def lnC (x : Line) : List Value := [.int .i64 (x.1.getD 0 0), .int .i64 (x.1.getD 1 0), .int .i64 (x.1.getD 2 0), .int .i64 (x.1.getD 3 0), .int .i64 x.2.1, .int .i64 x.2.2.1, .bool x.2.2.2]
abbrev lnV (x : Line) : Value := .agg #[.int .i64 (x.1.getD 0 0), .int .i64 (x.1.getD 1 0), .int .i64 (x.1.getD 2 0), .int .i64 (x.1.getD 3 0), .int .i64 x.2.1, .int .i64 x.2.2.1, .bool x.2.2.2]
theorem lnC_len (x : Line) : (lnC x).length = 7 := rfl
abbrev RdL (w : World) (v : Value) (L : List Line) : Prop := Rd 7 lnC w v L
abbrev LnAt (base : Nat) (w : World) (v : Value) (L : List Line) : Prop := RecAt 78 7 lnC base w v L

theorem slt73 : SlT 73 78 7 56 := SlT.mk' (z := lnV ([0, 0, 0, 0], 0, 0, false)) (by kernel_rfl) (by kernel_rfl) rfl (by decide)
theorem bs73 (a b c d x y : Int) (z : Bool) (w : World) (K : Value → World → Prop) : bsW Try.prog 73 1 [(0, .agg #[.int .i64 a, .int .i64 b, .int .i64 c, .int .i64 d, .int .i64 x, .int .i64 y, .bool z])] w K = K (.slice (some ⟨w.heap.size, 0, none⟩) 1 1) (w.alloc (.cells (Value.agg #[.int .i64 a, .int .i64 b, .int .i64 c, .int .i64 d, .int .i64 x, .int .i64 y, .bool z]).cells 78)) := by kernel_rfl

/-- A store of one boolean. -/
theorem st4 {w : World} {a : Addr} {n : Bool} {v : Value} {K : World → Prop} (hc : w.cell? a = some v) (hf : w.frozen? a = false) : stW Try.prog 4 (.pointer (some a)) (.bool n) w K = K (w.setCell a (.bool n)) := by
  have e : stW Try.prog 4 (.pointer (some a)) (.bool n) w K = ((w.cell? (a.add 0)).isSome = true ∧ w.frozen? (a.add 0) = false ∧ true = true ∧ K (w.setCell (a.add 0) (.bool n))) := by kernel_rfl
  rw [e]
  have ha : a.add 0 = a := rfl
  simp [ha, hc, hf]
/-- A store of one slice. -/
theorem st73 {w : World} {a : Addr} {x : Option Addr} {n c : Nat} {v : Value} {K : World → Prop} (hc : w.cell? a = some v) (hf : w.frozen? a = false) : stW Try.prog 73 (.pointer (some a)) (.slice x n c) w K = K (w.setCell a (.slice x n c)) := by
  have e : stW Try.prog 73 (.pointer (some a)) (.slice x n c) w K = ((w.cell? (a.add 0)).isSome = true ∧ w.frozen? (a.add 0) = false ∧ true = true ∧ K (w.setCell (a.add 0) (.slice x n c))) := by kernel_rfl
  rw [e]
  have ha : a.add 0 = a := rfl
  simp [ha, hc, hf]

abbrev atF (bw bs bo ba : Nat) : Value := .func (.func 104) #[] #[.pointer (some ⟨bw, 0, none⟩), .pointer (some ⟨bs, 0, none⟩), .pointer (some ⟨bo, 0, none⟩), .pointer (some ⟨ba, 0, none⟩)]

/-- What the rows' closure finds in memory. -/
structure RowsMem (l : List Tile) (W : Nat) (sv : Value) (bw bs bo ba base : Nat) (w : World) : Prop where
  hw : w.heap[bw]? = some (.cells #[.int .i64 W] 3 (0, 0))
  hs : w.heap[bs]? = some (.cells #[sv] 22 (0, 0))
  ha : w.heap[ba]? = some (.cells #[atF bw bs bo ba] 108 (0, 0))
  rd : RdT w sv l
  ltw : bw < base ∧ bw ≠ bo
  lts : bs < base ∧ bs ≠ bo
  lta : ba < base ∧ ba ≠ bo
  lto : bo < base
  ltv : ∀ b off n cap, sv = .slice (some ⟨b, off, none⟩) n cap → b < base ∧ b ≠ bo
  bas : base ≤ w.heap.size

theorem RowsMem.chg {l : List Tile} {W : Nat} {sv : Value} {bw bs bo ba base : Nat} {w w' : World} (h : RowsMem l W sv bw bs bo ba base w) (hc : Chg (fun k => k = bo ∨ base ≤ k) w w') : RowsMem l W sv bw bs bo ba base w' where
  hw := hc.at h.hw (by have := h.ltw; omega)
  hs := hc.at h.hs (by have := h.lts; omega)
  ha := hc.at h.ha (by have := h.lta; omega)
  rd := h.rd.chg hc fun b off n cap e => by have := h.ltv b off n cap e; omega
  ltw := h.ltw
  lts := h.lts
  lta := h.lta
  lto := h.lto
  ltv := h.ltv
  bas := Nat.le_trans h.bas hc.size

def part (l : List Tile) (n : Nat) (r : List Nat) (i : Nat) : List (List Nat) := if fits l r i = true then exts l n (r ++ [i]) else []

theorem cols_norths {l : List Tile} (hs : IsSet l) {r : List Nat} (hr : ∀ i ∈ r, i < l.length) : Cols (norths l r) ∧ Cols (souths l r) := by
  constructor
  · intro x hx
    simp only [norths, List.mem_map] at hx
    obtain ⟨i, hi, rfl⟩ := hx
    exact (tl_cols hs (hr i hi)).1
  · intro x hx
    simp only [souths, List.mem_map] at hx
    obtain ⟨i, hi, rfl⟩ := hx
    exact (tl_cols hs (hr i hi)).2.2.1

theorem pow16_le {a : Nat} (h : a ≤ 4) : 16 ^ a ≤ 65536 := by
  have : a = 0 ∨ a = 1 ∨ a = 2 ∨ a = 3 ∨ a = 4 := by omega
  rcases this with rfl | rfl | rfl | rfl | rfl <;> decide

theorem last_get {r : List Nat} {n : Nat} (h : r.length = n + 1) : r.getLastD 0 = r.getD n 0 := by
  rw [List.getLastD_eq_getLast?, List.getLast?_eq_getElem?, List.getD_eq_getElem?_getD, h]
  rfl

theorem line_cell {l : List Tile} {r : List Nat} {w : World} {b : Nat} (h : w.heap[b]? = some (.cells (lnV (partOf l r)).cells 78 (0, 0))) :
    (∀ k, k < 4 → w.cell? ⟨b, k, none⟩ = some (.int .i64 ((r.getD k 0 : Nat) : Int))) ∧ w.cell? ⟨b, 4, none⟩ = some (.int .i64 (code (norths l r))) ∧ w.cell? ⟨b, 5, none⟩ = some (.int .i64 (code (souths l r))) := by
  refine ⟨fun k hk => ?_, by rw [cell_row h]; rfl, by rw [cell_row h]; rfl⟩
  rw [cell_row h, ← pad4_at r hk]
  match k, hk with
  | 0, _ => rfl
  | 1, _ => rfl
  | 2, _ => rfl
  | 3, _ => rfl

theorem BX.of_chg {X : Nat → Prop} {w w' : World} (h : Chg X w w') : BX X w w' := ⟨h.os, h.tape, h.output, h.size, h.block⟩

theorem next_line {l : List Tile} {r : List Nat} {i : Nat} (hr : r.length < 4) :
    Value.agg (((((lnV (partOf l r)).cells.setIfInBounds r.length (.int .i64 i)).setIfInBounds 4 (.int .i64 (code (norths l r) * 8 + tN (tl l i)))).setIfInBounds 5 (.int .i64 (code (souths l r) * 8 + tS (tl l i))))) = lnV (partOf l (r ++ [i])) := by
  have h1 : code (norths l (r ++ [i])) = code (norths l r) * 8 + tN (tl l i) := by rw [norths, List.map_append, List.map_singleton, code_push]; rfl
  have h2 : code (souths l (r ++ [i])) = code (souths l r) * 8 + tS (tl l i) := by rw [souths, List.map_append, List.map_singleton, code_push]; rfl
  have h3 := pad4_push (i := i) hr
  simp only [partOf, h1, h2, h3]
  have h4 := pad4_len r
  generalize pad4 r = p at *
  match p, h4 with
  | [a, b, c, d], _ =>
    match hk : r.length, hr with
    | 0, _ => rfl
    | 1, _ => rfl
    | 2, _ => rfl
    | 3, _ => rfl

set_option maxRecDepth 100000 in
set_option maxHeartbeats 2000000 in
theorem at_calls {l : List Tile} (hs : IsSet l) {W : Nat} (hW : 1 ≤ W ∧ W ≤ 4) {sv : Value} {bw bs bo ba base : Nat} : ∀ (m : Nat) (r : List Nat) (P : List Line) (ov : Value) (w : World), r.length + m = W → (∀ i ∈ r, i < l.length) → RowsMem l W sv bw bs bo ba base w →
    w.heap[bo]? = some (.cells #[ov] 73 (0, 0)) → LnAt base w ov P → P.length + 16 ^ m ≤ 100000 →
    Calls Try.prog 104 #[lnV (partOf l r), .int .i64 r.length, .pointer (some ⟨bw, 0, none⟩), .pointer (some ⟨bs, 0, none⟩), .pointer (some ⟨bo, 0, none⟩), .pointer (some ⟨ba, 0, none⟩)] w fun e w' => e = .returned (.tuple #[]) ∧ ∃ ov',
      LnAt base w' ov' (P ++ (exts l m r).map (lineOf l)) ∧ w'.heap[bo]? = some (.cells #[ov'] 73 (0, 0)) ∧ Chg (fun k => k = bo ∨ ov.ownBlock = some k) w w' ∧ ∀ k, ov'.ownBlock = some k → ov.ownBlock = some k ∨ w.heap.size ≤ k := by
  intro m
  induction m with
  | zero =>
    intro r P ov w hm hr M ho hL hP
    refine lift104 ?_
    unfold S104
    refine r_box fun b6 w1 e6 s6 h6 k6 => ?_
    have M1 := M.chg (Chg.of_kp k6)
    have eW : r.length = W := by omega
    obtain ⟨n, hn⟩ : ∃ n, r.length = n + 1 := ⟨r.length - 1, by omega⟩
    have c2 : w1.cell? ⟨bw, 0, none⟩ = some (.int .i64 W) := by rw [cell_row M1.hw]; rfl
    simp (disch := omega) only [r_ln, r_pick, r_pickT, r_pickF, r_condT, r_condF, r_gdTT, r_gdFF, r_gdTF, r_gdFT, r_gqTT, r_gqFF, r_gqTF, r_gqFT, r_not, r_lss, r_leq, r_gtr, r_geq, r_eql, r_neq, r_add, r_sub, r_min2, r_max2, r_min3, r_max3, r_fa, r_iaS, r_iaA, r_ex2a, r_ex2b, r_ex3a, r_ex3b, r_ex3c, r_nc, r_keepE, Nat.zero_add, Nat.add_zero, Nat.mul_one, Int.toNat_natCast, toNat_sub1, toNat_add1, decide_true, decide_false, Bool.not_true, Bool.not_false, if_true, if_false, Bool.false_eq_true, reduceCtorEq, r_ld c2, eW, decide_eq_true (rfl : (W : Int) = W)]
    refine r_drew fun w2 k2 _ => ?_
    have k02 := Kp.trans k6 k2
    have M2 := M1.chg (Chg.of_kp k2)
    have c3 : w2.cell? ⟨bs, 0, none⟩ = some sv := by rw [cell_row M2.hs]; rfl
    have h62 := block_below h6 k2
    obtain ⟨hc4, _, _⟩ := line_cell h62
    have f0 := hc4 0 (by omega)
    have fn := hc4 n (by omega)
    have r0 : r.getD 0 0 < l.length := hr _ (getD_mem (by omega))
    have rn : r.getD n 0 < l.length := hr _ (getD_mem (by omega))
    obtain ⟨vb, vo, vc, ev, _, _, _, _, t03⟩ := RdT.tile M2.rd r0
    obtain ⟨vb', vo', vc', ev', _, _, tn1, _, _⟩ := RdT.tile M2.rd rn
    rw [ev] at ev'
    cases ev'
    have hWn : W = n + 1 := by omega
    rw [ev] at c3
    have i0 : ((0 : Int).toNat) = 0 := rfl
    have eWn : W - 1 = n := by omega
    simp (disch := omega) only [r_ln, r_pick, r_pickT, r_pickF, r_condT, r_condF, r_gdTT, r_gdFF, r_gdTF, r_gdFT, r_gqTT, r_gqFF, r_gqTF, r_gqFT, r_not, r_lss, r_leq, r_gtr, r_geq, r_eql, r_neq, r_add, r_sub, r_min2, r_max2, r_min3, r_max3, r_fa, r_iaS, r_iaA, r_ex2a, r_ex2b, r_ex3a, r_ex3b, r_ex3c, r_nc, r_keepE, Nat.zero_add, Nat.add_zero, Nat.mul_one, Int.toNat_natCast, toNat_sub1, toNat_add1, decide_true, decide_false, Bool.not_true, Bool.not_false, if_true, if_false, Bool.false_eq_true, reduceCtorEq, r_ld c3, i0, Nat.zero_mul, r_ld f0, r_ld t03, eWn, r_ld fn, r_ld tn1]
    have hc6 : ∃ x, w2.cell? ⟨b6, 6, none⟩ = some x := ⟨_, by rw [cell_row h62]; rfl⟩
    obtain ⟨x6, hc6⟩ := hc6
    rw [st4 hc6 (frozen_row h62)]
    have eb : decide (tW (tl l (r.getD 0 0)) = tE (tl l (r.getD n 0))) = closes l r := by
      unfold closes
      rw [last_get hn]
    rw [eb]
    have h63 := setCell_block (o := 6) (v := .bool (closes l r)) h62 rfl
    have cg3 : Chg (fun k => k = b6) w2 (w2.setCell ⟨b6, 6, none⟩ (.bool (closes l r))) := Chg.setCell _ _ rfl
    generalize w2.setCell ⟨b6, 6, none⟩ (.bool (closes l r)) = w3 at *
    have hlo := M.lto
    have hbas := M.bas
    have hob : ∀ k, ov.ownBlock = some k → base ≤ k ∧ k < w.heap.size := fun k hk => hL.lt hk
    have ho3 : w3.heap[bo]? = some (.cells #[ov] 73 (0, 0)) := cg3.at (block_below ho k02) (by omega)
    have hL3 : LnAt base w3 ov P := (hL.kp k02).chg cg3 fun k hk e => by have := hob k hk; omega
    have c4 : w3.cell? ⟨bo, 0, none⟩ = some ov := by rw [cell_row ho3]; rfl
    rw [r_ld c4, r_ldRow (n := 7) h63 rfl]
    have elv : Value.agg ((lnV (partOf l r)).cells.setIfInBounds 6 (.bool (closes l r))) = lnV (lineOf l r) := rfl
    rw [elv]
    have s2 := k02.size
    have s3 := cg3.size
    refine r_pushRec (x := lineOf l r) slt73 lnC_len rfl (bs73 _ _ _ _ _ _ _ _) (by intro u hu; simp [lnC] at hu; rcases hu with rfl | rfl | rfl | rfl | rfl | rfl | rfl <;> rfl) (by omega) hL3 (by omega) (by omega) fun v' w4 hL4 cg4 hv4 => ?_
    obtain ⟨a4, cap4, rfl, _⟩ := hL4.len
    have ho4 : w4.heap[bo]? = some (.cells #[ov] 73 (0, 0)) := cg4.at ho3 fun hk => by have := hob _ hk; omega
    have c5 : w4.cell? ⟨bo, 0, none⟩ = some ov := by rw [cell_row ho4]; rfl
    rw [st73 c5 (frozen_row ho4)]
    have ho5 := setCell_block (o := 0) (v := .slice a4 (P ++ [lineOf l r]).length cap4) ho4 rfl
    have cg5 : Chg (fun k => k = bo) w4 (w4.setCell ⟨bo, 0, none⟩ (.slice a4 (P ++ [lineOf l r]).length cap4)) := Chg.setCell _ _ rfl
    generalize w4.setCell ⟨bo, 0, none⟩ (.slice a4 (P ++ [lineOf l r]).length cap4) = w5 at *
    have s4 := cg4.size
    refine ⟨trivial, _, hL4.chg cg5 fun k hk e => ?_, ho5, ?_, fun k hk => ?_⟩
    · rcases hv4 k hk with h | h
      · have := hob _ h; omega
      · omega
    · have t : Chg (fun k => k = bo ∨ ov.ownBlock = some k ∨ w.heap.size ≤ k) w w5 :=
        (((Chg.of_kp k02).trans (cg3.mono fun k _ e => .inr (.inr (by omega)))).trans (cg4.mono fun k _ e => .inr (.inl e))).trans (cg5.mono fun k _ e => .inl e)
      exact t.mono fun k hk e => by
        rcases e with e | e | e
        · exact .inl e
        · exact .inr e
        · omega
    · rcases hv4 k hk with h | h
      · exact .inl h
      · exact .inr (by omega)
  | succ m ih =>
    intro r P ov w hm hr M ho hL hP
    refine lift104 ?_
    unfold S104
    refine r_box fun b6 w1 e6 s6 h6 k6 => ?_
    have M1 := M.chg (Chg.of_kp k6)
    have c2 : w1.cell? ⟨bw, 0, none⟩ = some (.int .i64 W) := by rw [cell_row M1.hw]; rfl
    have c3 : w1.cell? ⟨bs, 0, none⟩ = some sv := by rw [cell_row M1.hs]; rfl
    have hne : ¬ (r.length : Int) = (W : Int) := by omega
    obtain ⟨sa, scap, rfl, hscap⟩ := M1.rd.len
    have hl16 := hs.most
    have hlo := M.lto
    have hbas := M.bas
    have hob : ∀ k, ov.ownBlock = some k → base ≤ k ∧ k < w.heap.size := fun k hk => hL.lt hk
    simp (disch := omega) only [r_ln, r_pick, r_pickT, r_pickF, r_condT, r_condF, r_gdTT, r_gdFF, r_gdTF, r_gdFT, r_gqTT, r_gqFF, r_gqTF, r_gqFT, r_not, r_lss, r_leq, r_gtr, r_geq, r_eql, r_neq, r_add, r_sub, r_min2, r_max2, r_min3, r_max3, r_fa, r_iaS, r_iaA, r_ex2a, r_ex2b, r_ex3a, r_ex3b, r_ex3c, r_nc, r_keepE, Nat.zero_add, Nat.add_zero, Nat.mul_one, Int.toNat_natCast, toNat_sub1, toNat_add1, decide_true, decide_false, Bool.not_true, Bool.not_false, if_true, if_false, Bool.false_eq_true, reduceCtorEq, r_ld c2, hne, r_ld c3]
    have hexl : ∀ i, (exts l m (r ++ [i])).length ≤ 16 ^ m := fun i => exts_length_le hl16 m _
    have hpl : ∀ i, ((List.range i).flatMap (part l m r)).length ≤ i * 16 ^ m := fun i => by
      induction i with
      | zero => simp
      | succ i ihi =>
        rw [List.range_succ, List.flatMap_append, List.length_append, Nat.add_mul, Nat.one_mul]
        have : (part l m r i).length ≤ 16 ^ m := by
          unfold part; split
          · exact hexl i
          · simp
        simp only [List.flatMap_cons, List.flatMap_nil, List.append_nil]
        omega
    have hp16 : 16 ^ (m + 1) = 16 ^ m * 16 := Nat.pow_succ _ _
    refine ⟨fun t38 wr => ∃ (i : Nat) (oi : Value), i ≤ l.length ∧ t38 = .int .i64 i ∧ wr.heap[bo]? = some (.cells #[oi] 73 (0, 0)) ∧ LnAt base wr oi (P ++ ((List.range i).flatMap (part l m r)).map (lineOf l)) ∧
        Chg (fun k => k = bo ∨ ov.ownBlock = some k) w1 wr ∧ ∀ k, oi.ownBlock = some k → ov.ownBlock = some k ∨ w1.heap.size ≤ k, fun t38 _ => l.length - (intOf t38).toNat,
      ⟨0, ov, by omega, rfl, block_below ho k6, by simpa using hL.kp k6, Chg.refl _ _, fun k hk => .inl hk⟩, ?_⟩
    rintro _ _ wr ⟨i, oi, hi, rfl, hor, hLr, hcr, hov⟩
    have Mr := M1.chg (hcr.mono (S' := fun k => k = bo ∨ base ≤ k) fun k _ e => e.imp id fun e => (hob k e).1)
    have hpli := hpl i
    by_cases hlt : i < l.length
    case neg =>
      have hlt' : ¬ (i : Int) < (l.length : Int) := by omega
      have ei : i = l.length := by omega
      subst ei
      simp (disch := omega) only [r_ln, r_pick, r_pickT, r_pickF, r_condT, r_condF, r_gdTT, r_gdFF, r_gdTF, r_gdFT, r_gqTT, r_gqFF, r_gqTF, r_gqFT, r_not, r_lss, r_leq, r_gtr, r_geq, r_eql, r_neq, r_add, r_sub, r_min2, r_max2, r_min3, r_max3, r_fa, r_iaS, r_iaA, r_ex2a, r_ex2b, r_ex3a, r_ex3b, r_ex3c, r_nc, r_keepE, Nat.zero_add, Nat.add_zero, Nat.mul_one, Int.toNat_natCast, toNat_sub1, toNat_add1, decide_true, decide_false, Bool.not_true, Bool.not_false, if_true, if_false, Bool.false_eq_true, reduceCtorEq, hlt']
      refine ⟨trivial, oi, hLr, hor, ?_, fun k hk => (hov k hk).imp id fun h => by omega⟩
      exact (((Chg.of_kp (S := fun k => k = bo ∨ ov.ownBlock = some k) k6).trans hcr))
    have hlt' : (i : Int) < (l.length : Int) := by omega
    have hmul : i * 16 ^ m + 16 ^ m ≤ 16 ^ m * 16 := by
      have : (i + 1) * 16 ^ m ≤ 16 * 16 ^ m := Nat.mul_le_mul_right _ (by omega)
      rw [Nat.add_mul, Nat.one_mul, Nat.mul_comm 16] at this
      exact this
    simp (disch := omega) only [r_ln, r_pick, r_pickT, r_pickF, r_condT, r_condF, r_gdTT, r_gdFF, r_gdTF, r_gdFT, r_gqTT, r_gqFF, r_gqTF, r_gqFT, r_not, r_lss, r_leq, r_gtr, r_geq, r_eql, r_neq, r_add, r_sub, r_min2, r_max2, r_min3, r_max3, r_fa, r_iaS, r_iaA, r_ex2a, r_ex2b, r_ex3a, r_ex3b, r_ex3c, r_nc, r_keepE, Nat.zero_add, Nat.add_zero, Nat.mul_one, Int.toNat_natCast, toNat_sub1, toNat_add1, decide_true, decide_false, Bool.not_true, Bool.not_false, if_true, if_false, Bool.false_eq_true, reduceCtorEq, decide_eq_true hlt']
    have hsucc : (List.range (i + 1)).flatMap (part l m r) = (List.range i).flatMap (part l m r) ++ part l m r i := by
      rw [List.range_succ, List.flatMap_append]
      simp
    refine r_join0 (fun w' => ∃ oj, w'.heap[bo]? = some (.cells #[oj] 73 (0, 0)) ∧ LnAt base w' oj (P ++ ((List.range (i + 1)).flatMap (part l m r)).map (lineOf l)) ∧
        Chg (fun k => k = bo ∨ ov.ownBlock = some k) w1 w' ∧ ∀ k, oj.ownBlock = some k → ov.ownBlock = some k ∨ w1.heap.size ≤ k) ?_ ?_
    · rintro w' ⟨oj, q1, q2, q3, q4⟩
      try simp (disch := omega) only [r_ln, r_pick, r_pickT, r_pickF, r_condT, r_condF, r_gdTT, r_gdFF, r_gdTF, r_gdFT, r_gqTT, r_gqFF, r_gqTF, r_gqFT, r_not, r_lss, r_leq, r_gtr, r_geq, r_eql, r_neq, r_add, r_sub, r_min2, r_max2, r_min3, r_max3, r_fa, r_iaS, r_iaA, r_ex2a, r_ex2b, r_ex3a, r_ex3b, r_ex3c, r_nc, r_keepE, Nat.zero_add, Nat.add_zero, Nat.mul_one, Int.toNat_natCast, toNat_sub1, toNat_add1, decide_true, decide_false, Bool.not_true, Bool.not_false, if_true, if_false, Bool.false_eq_true, reduceCtorEq]
      exact ⟨⟨i + 1, oj, by omega, by go_num, q1, q2, q3, q4⟩, by simp only [intOf]; omega⟩
    intro kk hkk
    obtain ⟨vb, vo, vc, ev, hld, _⟩ := RdT.tile Mr.rd hlt
    cases ev
    simp (disch := omega) only [r_ln, r_pick, r_pickT, r_pickF, r_condT, r_condF, r_gdTT, r_gdFF, r_gdTF, r_gdFT, r_gqTT, r_gqFF, r_gqTF, r_gqFT, r_not, r_lss, r_leq, r_gtr, r_geq, r_eql, r_neq, r_add, r_sub, r_min2, r_max2, r_min3, r_max3, r_fa, r_iaS, r_iaA, r_ex2a, r_ex2b, r_ex3a, r_ex3b, r_ex3c, r_nc, r_keepE, Nat.zero_add, Nat.add_zero, Nat.mul_one, Int.toNat_natCast, toNat_sub1, toNat_add1, decide_true, decide_false, Bool.not_true, Bool.not_false, if_true, if_false, Bool.false_eq_true, reduceCtorEq, hld]
    refine r_box fun b9 w2 e9 s9 h9 k9 => ?_
    refine r_stAll (n := 4) (ty := 32) (by kernel_rfl) rfl (by intro u hu; simp [Value.cells] at hu; rcases hu with rfl | rfl | rfl | rfl <;> rfl) h9 rfl fun w3 cg3 s3 h93 => ?_
    have k03 : Kp wr w3 := Kp.of_chg k9 cg3 fun i e => by omega
    refine r_drew fun w4 k4 _ => ?_
    have kr4 := Kp.trans k03 k4
    have M4 := Mr.chg (Chg.of_kp kr4)
    have h94 := block_below h93 k4
    have scr := hcr.size
    have sr4 := kr4.size
    have h6r : wr.heap[b6]? = some (.cells (lnV (partOf l r)).cells 78 (0, 0)) := hcr.at h6 fun hk => by
      rcases hk with e | e
      · omega
      · have := hob _ e; omega
    have h64 := block_below h6r kr4
    obtain ⟨hc4, g4, g5⟩ := line_cell h64
    have c3' : w4.cell? ⟨bs, 0, none⟩ = some (.slice (some ⟨vb, vo, none⟩) l.length scap) := by rw [cell_row M4.hs]; rfl
    have d0 : w4.cell? ⟨b9, 0, none⟩ = some (.int .i64 (tN (tl l i))) := by rw [cell_row h94]; rfl
    have d2 : w4.cell? ⟨b9, 2, none⟩ = some (.int .i64 (tS (tl l i))) := by rw [cell_row h94]; rfl
    have d3 : w4.cell? ⟨b9, 3, none⟩ = some (.int .i64 (tW (tl l i))) := by rw [cell_row h94]; rfl
    have skip : fits l r i = false → kk w4 := fun hf => hkk _ ⟨oi, block_below hor kr4, by
      rw [hsucc]
      have : part l m r i = [] := by unfold part; rw [hf]; rfl
      rw [this, List.append_nil]
      exact hLr.kp kr4, hcr.trans (Chg.of_kp kr4), hov⟩
    have hcase : (r.length = 0 ∧ fits l r i = true) ∨ ∃ n, r.length = n + 1 ∧ fits l r i = decide (tE (tl l (r.getD n 0)) = tW (tl l i)) := by
      cases hk : r.length with
      | zero =>
        have : r = [] := List.length_eq_zero_iff.1 hk
        exact .inl ⟨rfl, by simp [fits, this]⟩
      | succ n =>
        have : ¬ r = [] := fun e => by rw [e] at hk; simp at hk
        exact .inr ⟨n, rfl, by simp only [fits, this, decide_false, Bool.false_or, last_get hk]⟩
    by_cases hff : fits l r i = true
    case neg =>
      have hff' : fits l r i = false := by simpa using hff
      rcases hcase with ⟨_, hf⟩ | ⟨n, hn, hf⟩
      · rw [hf] at hff'; cases hff'
      rw [hf] at hff'
      have hff2 : ¬ tE (tl l (r.getD n 0)) = tW (tl l i) := by simpa using hff'
      have rn : r.getD n 0 < l.length := hr _ (getD_mem (by omega))
      obtain ⟨vb', vo', vc', ev', _, _, tn1, _, _⟩ := RdT.tile M4.rd rn
      cases ev'
      have hn0 : (0 : Int) < (r.length : Int) := by omega
      have e1 : r.length - 1 = n := by omega
      simp (disch := omega) only [r_ln, r_pick, r_pickT, r_pickF, r_condT, r_condF, r_gdTT, r_gdFF, r_gdTF, r_gdFT, r_gqTT, r_gqFF, r_gqTF, r_gqFT, r_not, r_lss, r_leq, r_gtr, r_geq, r_eql, r_neq, r_add, r_sub, r_min2, r_max2, r_min3, r_max3, r_fa, r_iaS, r_iaA, r_ex2a, r_ex2b, r_ex3a, r_ex3b, r_ex3c, r_nc, r_keepE, Nat.zero_add, Nat.add_zero, Nat.mul_one, Int.toNat_natCast, toNat_sub1, toNat_add1, decide_true, decide_false, Bool.not_true, Bool.not_false, if_true, if_false, Bool.false_eq_true, reduceCtorEq, decide_eq_true hn0, r_ld c3', e1, r_ld (hc4 n (by omega)), r_ld tn1, r_ld d3, hff2]
      exact skip (by rw [hf]; exact hff')
    have hr4 : r.length < 4 := by omega
    rcases hcase with ⟨h0, _⟩ | ⟨n, hn, hf⟩
    have h0' : ¬ (0 : Int) < (r.length : Int) := by omega
    simp (disch := omega) only [r_ln, r_pick, r_pickT, r_pickF, r_condT, r_condF, r_gdTT, r_gdFF, r_gdTF, r_gdFT, r_gqTT, r_gqFF, r_gqTF, r_gqFT, r_not, r_lss, r_leq, r_gtr, r_geq, r_eql, r_neq, r_add, r_sub, r_min2, r_max2, r_min3, r_max3, r_fa, r_iaS, r_iaA, r_ex2a, r_ex2b, r_ex3a, r_ex3b, r_ex3c, r_nc, r_keepE, Nat.zero_add, Nat.add_zero, Nat.mul_one, Int.toNat_natCast, toNat_sub1, toNat_add1, decide_true, decide_false, Bool.not_true, Bool.not_false, if_true, if_false, Bool.false_eq_true, reduceCtorEq, h0']
    rotate_left
    rw [hf] at hff
    have hff2 : tE (tl l (r.getD n 0)) = tW (tl l i) := by simpa using hff
    rw [← hf] at hff
    have rn : r.getD n 0 < l.length := hr _ (getD_mem (by omega))
    obtain ⟨vb', vo', vc', ev', _, _, tn1, _, _⟩ := RdT.tile M4.rd rn
    cases ev'
    have hn0 : (0 : Int) < (r.length : Int) := by omega
    have e1 : r.length - 1 = n := by omega
    simp (disch := omega) only [r_ln, r_pick, r_pickT, r_pickF, r_condT, r_condF, r_gdTT, r_gdFF, r_gdTF, r_gdFT, r_gqTT, r_gqFF, r_gqTF, r_gqFT, r_not, r_lss, r_leq, r_gtr, r_geq, r_eql, r_neq, r_add, r_sub, r_min2, r_max2, r_min3, r_max3, r_fa, r_iaS, r_iaA, r_ex2a, r_ex2b, r_ex3a, r_ex3b, r_ex3c, r_nc, r_keepE, Nat.zero_add, Nat.add_zero, Nat.mul_one, Int.toNat_natCast, toNat_sub1, toNat_add1, decide_true, decide_false, Bool.not_true, Bool.not_false, if_true, if_false, Bool.false_eq_true, reduceCtorEq, decide_eq_true hn0, r_ld c3', e1, r_ld (hc4 n (by omega)), r_ld tn1, r_ld d3, decide_eq_true hff2]
    rotate_left
    all_goals
      rw [r_ldRow (n := 7) h64 rfl]
      refine r_box fun b10 w5 e10 s10 h10 k10 => ?_
      refine r_stAll (n := 7) (ty := 78) (by kernel_rfl) rfl (by intro u hu; simp [Value.cells] at hu; rcases hu with rfl | rfl | rfl | rfl | rfl | rfl | rfl <;> rfl) h10 rfl fun w6 cg6 s6' h106 => ?_
      have k46 : Kp w4 w6 := Kp.of_chg k10 cg6 fun i e => by omega
      refine r_drew fun w7 k7 _ => ?_
      have k47 := Kp.trans k46 k7
      have h107 : w7.heap[b10]? = some (.cells (lnV (partOf l r)).cells 78 (0, 0)) := block_below h106 k7
      have h67 := block_below h64 k47
      have h97 := block_below h94 k47
      obtain ⟨_, g4', g5'⟩ := line_cell h67
      obtain ⟨z4, _, _⟩ := line_cell h107
      have d0' := cell_later k47 d0
      have d2' := cell_later k47 d2
      have b6lt := block_lt h64
      have b9lt := block_lt h94
      have s47 := k47.size
      have s46 := k46.size
      have n6 : ¬ (fun k => k = b10) b6 := by dsimp only; omega
      have n9 : ¬ (fun k => k = b10) b9 := by dsimp only; omega
      obtain ⟨q1, q2⟩ := cols_norths hs hr
      have q3 := code_range q1 (by simp [norths]; omega)
      have q4 := code_range q2 (by simp [souths]; omega)
      obtain ⟨t1, _, t3, _⟩ := tl_cols hs hlt
      refine ⟨fun k => k = b10, ?_⟩
      simp (disch := omega) only [r_ln, r_pick, r_pickT, r_pickF, r_condT, r_condF, r_gdTT, r_gdFF, r_gdTF, r_gdFT, r_gqTT, r_gqFF, r_gqTF, r_gqFT, r_not, r_lss, r_leq, r_gtr, r_geq, r_eql, r_neq, r_add, r_sub, r_min2, r_max2, r_min3, r_max3, r_fa, r_iaS, r_iaA, r_ex2a, r_ex2b, r_ex3a, r_ex3b, r_ex3c, r_nc, r_keepE, Nat.zero_add, Nat.add_zero, Nat.mul_one, Int.toNat_natCast, toNat_sub1, toNat_add1, decide_true, decide_false, Bool.not_true, Bool.not_false, if_true, if_false, Bool.false_eq_true, reduceCtorEq, r_tx, r_txl (X := fun k => k = b10) g4' n6, r_txl (X := fun k => k = b10) g5' n6, r_txl (X := fun k => k = b10) d0' n9, r_txl (X := fun k => k = b10) d2' n9, r_mul]
      rw [st3 (z4 r.length hr4) (frozen_row h107), r_keepWE]
      have x1 := setCell_block (o := r.length) (v := .int .i64 i) h107 rfl
      have cx1 : Chg (fun k => k = b10) w7 (w7.setCell ⟨b10, r.length, none⟩ (.int .i64 i)) := Chg.setCell _ _ rfl
      refine ⟨BX.of_chg cx1, ?_⟩
      generalize w7.setCell ⟨b10, r.length, none⟩ (.int .i64 i) = w8 at *
      have y4 : ∃ x, w8.cell? ⟨b10, 4, none⟩ = some x := ⟨_, by rw [cell_row x1, Array.getElem?_setIfInBounds_ne (by omega)]; rfl⟩
      obtain ⟨_, y4⟩ := y4
      try simp only [r_ln, r_pick, r_pickT, r_pickF, r_condT, r_condF, r_gdTT, r_gdFF, r_gdTF, r_gdFT, r_gqTT, r_gqFF, r_gqTF, r_gqFT, r_not, r_lss, r_leq, r_gtr, r_geq, r_eql, r_neq, r_add, r_sub, r_min2, r_max2, r_min3, r_max3, r_fa, r_iaS, r_iaA, r_ex2a, r_ex2b, r_ex3a, r_ex3b, r_ex3c, r_nc, r_keepE, Nat.zero_add, Nat.add_zero, Nat.mul_one, Int.toNat_natCast, toNat_sub1, toNat_add1, decide_true, decide_false, Bool.not_true, Bool.not_false, if_true, if_false, Bool.false_eq_true, reduceCtorEq, r_tx]
      rw [st3 y4 (frozen_row x1), r_keepWE]
      have x2 := setCell_block (o := 4) (v := .int .i64 (code (norths l r) * 8 + tN (tl l i))) x1 rfl
      have cx2 : Chg (fun k => k = b10) w8 (w8.setCell ⟨b10, 4, none⟩ (.int .i64 (code (norths l r) * 8 + tN (tl l i)))) := Chg.setCell _ _ rfl
      refine ⟨BX.of_chg cx2, ?_⟩
      generalize w8.setCell ⟨b10, 4, none⟩ (.int .i64 (code (norths l r) * 8 + tN (tl l i))) = w9 at *
      have y5 : ∃ x, w9.cell? ⟨b10, 5, none⟩ = some x := ⟨_, by rw [cell_row x2, Array.getElem?_setIfInBounds_ne (by omega), Array.getElem?_setIfInBounds_ne (by omega)]; rfl⟩
      obtain ⟨_, y5⟩ := y5
      try simp only [r_ln, r_pick, r_pickT, r_pickF, r_condT, r_condF, r_gdTT, r_gdFF, r_gdTF, r_gdFT, r_gqTT, r_gqFF, r_gqTF, r_gqFT, r_not, r_lss, r_leq, r_gtr, r_geq, r_eql, r_neq, r_add, r_sub, r_min2, r_max2, r_min3, r_max3, r_fa, r_iaS, r_iaA, r_ex2a, r_ex2b, r_ex3a, r_ex3b, r_ex3c, r_nc, r_keepE, Nat.zero_add, Nat.add_zero, Nat.mul_one, Int.toNat_natCast, toNat_sub1, toNat_add1, decide_true, decide_false, Bool.not_true, Bool.not_false, if_true, if_false, Bool.false_eq_true, reduceCtorEq, r_tx]
      rw [st3 y5 (frozen_row x2)]
      have x3 := setCell_block (o := 5) (v := .int .i64 (code (souths l r) * 8 + tS (tl l i))) x2 rfl
      have cx3 : Chg (fun k => k = b10) w9 (w9.setCell ⟨b10, 5, none⟩ (.int .i64 (code (souths l r) * 8 + tS (tl l i)))) := Chg.setCell _ _ rfl
      generalize w9.setCell ⟨b10, 5, none⟩ (.int .i64 (code (souths l r) * 8 + tS (tl l i))) = wa at *
      have cxx : Chg (fun k => k = b10) w7 wa := (cx1.trans cx2).trans cx3
      have k4a : Kp w4 wa := Kp.of_chg k47 cxx fun k e => by omega
      have kra := Kp.trans kr4 k4a
      have Ma := M4.chg (Chg.of_kp k4a)
      have ca : wa.cell? ⟨ba, 0, none⟩ = some (atF bw bs bo ba) := by rw [cell_row Ma.ha]; rfl
      rw [r_ld ca, r_ldRow (n := 7) x3 (by simp [Value.cells]), next_line hr4]
      try simp (disch := omega) only [r_ln, r_pick, r_pickT, r_pickF, r_condT, r_condF, r_gdTT, r_gdFF, r_gdTF, r_gdFT, r_gqTT, r_gqFF, r_gqTF, r_gqFT, r_not, r_lss, r_leq, r_gtr, r_geq, r_eql, r_neq, r_add, r_sub, r_min2, r_max2, r_min3, r_max3, r_fa, r_iaS, r_iaA, r_ex2a, r_ex2b, r_ex3a, r_ex3b, r_ex3c, r_nc, r_keepE, Nat.zero_add, Nat.add_zero, Nat.mul_one, Int.toNat_natCast, toNat_sub1, toNat_add1, decide_true, decide_false, Bool.not_true, Bool.not_false, if_true, if_false, Bool.false_eq_true, reduceCtorEq]
      have eargs : ((r.length : Int) + 1) = ((r ++ [i]).length : Nat) := by simp
      rw [eargs]
      have hbound : (P ++ ((List.range i).flatMap (part l m r)).map (lineOf l)).length + 16 ^ m ≤ 100000 := by
        rw [List.length_append, List.length_map]
        omega
      refine r_use fok104 (ih (r ++ [i]) _ oi wa (by simp; omega) (fun k hk => by
        rcases List.mem_append.1 hk with hk | hk
        · exact hr k hk
        · rw [List.mem_singleton.1 hk]; exact hlt) Ma (block_below hor kra) (hLr.kp kra) hbound) rfl ?_
      rintro _ wb ⟨rfl, oj, p1, p2, p3, p4⟩
      refine ⟨_, rfl, hkk _ ⟨oj, p2, ?_, ?_, fun k hk => ?_⟩⟩
      · rw [hsucc]
        have : part l m r i = exts l m (r ++ [i]) := by unfold part; rw [if_pos hff]
        rw [this, List.map_append, ← List.append_assoc]
        exact p1
      · have t : Chg (fun k => k = bo ∨ ov.ownBlock = some k ∨ w1.heap.size ≤ k) w1 wb := ((hcr.mono fun k _ e => e.imp id .inl).trans (Chg.of_kp kra)).trans (p3.mono fun k _ e => e.imp id fun e => hov k e)
        exact t.mono fun k hk e => by
          rcases e with e | e | e
          · exact .inl e
          · exact .inr e
          · omega
      · rcases p4 k hk with h | h
        · exact hov k h
        · have := kra.size
          exact .inr (by omega)

set_option maxRecDepth 100000 in
theorem rows_calls {l : List Tile} (hs : IsSet l) {W : Nat} (hW : 1 ≤ W ∧ W ≤ 4) {sv : Value} (w : World) (hr : RdT w sv l) :
    Calls Try.prog 59 #[sv, .int .i64 W] w fun e w' => ∃ v', e = .returned v' ∧ Kp w w' ∧ LnAt w.heap.size w' v' ((rowsL l W).map (lineOf l)) := by
  obtain ⟨sa, scap, rfl, _⟩ := hr.len
  refine lift59 ?_
  unfold S59
  refine r_box fun b2 w1 e2 s2 h2 k2 => ?_
  refine r_box fun b3 w3 e3 s3 h3 k3 => ?_
  refine r_box fun b5 w5 e5 s5 h5 k5 => ?_
  refine r_box fun b6 w6 e6 s6 h6 k6 => ?_
  refine r_stAll (n := 1) (ty := 108) (cs := #[.nilFunc]) (by kernel_rfl) rfl (by intro u hu; simp [Value.cells] at hu; subst hu; rfl) h6 rfl fun w7 c7 s7 h7 => ?_
  have k06 : Kp w w6 := Kp.trans (Kp.trans k2 k3) (Kp.trans k5 k6)
  have k07 : Kp w w7 := Kp.of_chg k06 c7 fun i e => by omega
  have cf : w7.cell? ⟨b6, 0, none⟩ = some (atF b3 b2 b5 b6) := by rw [cell_row h7]; rfl
  have hz : ∀ K : Value → Prop, bdQ Try.prog 78 [] K = K (lnV (partOf l [])) := fun K => by kernel_rfl
  rw [r_ld cf, hz]
  have hl1 := hs.pos
  have M : RowsMem l W (.slice sa l.length scap) b3 b2 b5 b6 w7.heap.size w7 := by
    refine ⟨c7.at (block_below h3 (Kp.trans k5 k6)) (by omega), c7.at (block_below h2 (Kp.trans k3 (Kp.trans k5 k6))) (by omega), h7, hr.kp k07, ⟨by omega, by omega⟩, ⟨by omega, by omega⟩, ⟨by omega, by omega⟩, by omega, fun b off n cap e => ?_, Nat.le_refl _⟩
    have := hr.block (fun x => by rw [tlC_len]; omega) e (by omega)
    omega
  have ho : w7.heap[b5]? = some (.cells #[.slice none 0 0] 73 (0, 0)) := c7.at (block_below h5 k6) (by omega)
  have h16 := pow16_le hW.2
  refine r_use fok104 (at_calls hs hW W [] [] _ w7 (by simp) (by simp) M ho RecAt.nil (by simp; omega)) rfl ?_
  rintro _ w8 ⟨rfl, v, hL, ho8, hch, hv⟩
  refine ⟨_, rfl, ?_⟩
  have cv : w8.cell? ⟨b5, 0, none⟩ = some v := by rw [cell_row ho8]; rfl
  rw [r_ld cv]
  refine ⟨v, rfl, Kp.of_chg k07 hch fun k e => ?_, ?_⟩
  · rcases e with e | e
    · omega
    · cases e
  · rw [List.nil_append] at hL
    exact hL.down (by have := k07.size; omega)

end Go.Proofs.Ytgalbokmgffhkaa
