/- Texts of my own, merged by program: C1 C2 C3. -/
import Derived.Test.YtaephdjmpmbfpaaM04
import Derived.Test.YtaephdjmpmbfpaaM02
import Derived.Test.YtaephdjmpmbfpaaM03
set_option linter.all false
/- Contracts: boxes and heaps are judged alike by program and specification. -/
namespace Go.Proofs.Ytaephdjmpmbfpaa
open Go.Lf Go.RowKit Go.Hp

theorem good_calls (A B C : Int) (w : World) : Calls Try.prog 62 #[boxV A B C] w fun e w' => e = .returned (.bool (validB A B C)) ∧ Kp w w' := by
  refine lift62 ?_
  unfold S62
  refine r_box fun b w1 _ _ hb hk => ?_
  obtain ⟨c0, c1, c2⟩ := box3 hb
  by_cases h1 : 1 ≤ A
  case neg => simp only [r_ln, r_pick, r_pickT, r_pickF, r_condT, r_condF, r_gdTT, r_gdFF, r_gdTF, r_gdFT, r_gqTT, r_gqFF, r_gqTF, r_gqFT, r_not, r_lss, r_leq, r_gtr, r_geq, r_eql, r_neq, r_add, r_sub, r_min2, r_max2, r_min3, r_max3, r_fa, r_iaS, r_iaA, r_ex2a, r_ex2b, r_ex3a, r_ex3b, r_ex3c, r_nc, r_keepE, Nat.zero_add, Nat.add_zero, Nat.mul_one, Int.toNat_natCast, toNat_sub1, toNat_add1, decide_true, decide_false, Bool.not_true, Bool.not_false, if_true, if_false, Bool.false_eq_true, reduceCtorEq, r_ld c0, h1]; exact ⟨by simp [validB, h1], hk⟩
  by_cases h2 : A ≤ 4
  case neg => simp only [r_ln, r_pick, r_pickT, r_pickF, r_condT, r_condF, r_gdTT, r_gdFF, r_gdTF, r_gdFT, r_gqTT, r_gqFF, r_gqTF, r_gqFT, r_not, r_lss, r_leq, r_gtr, r_geq, r_eql, r_neq, r_add, r_sub, r_min2, r_max2, r_min3, r_max3, r_fa, r_iaS, r_iaA, r_ex2a, r_ex2b, r_ex3a, r_ex3b, r_ex3c, r_nc, r_keepE, Nat.zero_add, Nat.add_zero, Nat.mul_one, Int.toNat_natCast, toNat_sub1, toNat_add1, decide_true, decide_false, Bool.not_true, Bool.not_false, if_true, if_false, Bool.false_eq_true, reduceCtorEq, r_ld c0, h1, h2]; exact ⟨by simp [validB, h2], hk⟩
  by_cases h3 : 1 ≤ B
  case neg => simp only [r_ln, r_pick, r_pickT, r_pickF, r_condT, r_condF, r_gdTT, r_gdFF, r_gdTF, r_gdFT, r_gqTT, r_gqFF, r_gqTF, r_gqFT, r_not, r_lss, r_leq, r_gtr, r_geq, r_eql, r_neq, r_add, r_sub, r_min2, r_max2, r_min3, r_max3, r_fa, r_iaS, r_iaA, r_ex2a, r_ex2b, r_ex3a, r_ex3b, r_ex3c, r_nc, r_keepE, Nat.zero_add, Nat.add_zero, Nat.mul_one, Int.toNat_natCast, toNat_sub1, toNat_add1, decide_true, decide_false, Bool.not_true, Bool.not_false, if_true, if_false, Bool.false_eq_true, reduceCtorEq, r_ld c0, r_ld c1, h1, h2, h3]; exact ⟨by simp [validB, h3], hk⟩
  by_cases h4 : B ≤ 4
  case neg => simp only [r_ln, r_pick, r_pickT, r_pickF, r_condT, r_condF, r_gdTT, r_gdFF, r_gdTF, r_gdFT, r_gqTT, r_gqFF, r_gqTF, r_gqFT, r_not, r_lss, r_leq, r_gtr, r_geq, r_eql, r_neq, r_add, r_sub, r_min2, r_max2, r_min3, r_max3, r_fa, r_iaS, r_iaA, r_ex2a, r_ex2b, r_ex3a, r_ex3b, r_ex3c, r_nc, r_keepE, Nat.zero_add, Nat.add_zero, Nat.mul_one, Int.toNat_natCast, toNat_sub1, toNat_add1, decide_true, decide_false, Bool.not_true, Bool.not_false, if_true, if_false, Bool.false_eq_true, reduceCtorEq, r_ld c0, r_ld c1, h1, h2, h3, h4]; exact ⟨by simp [validB, h4], hk⟩
  by_cases h5 : 1 ≤ C
  case neg => simp only [r_ln, r_pick, r_pickT, r_pickF, r_condT, r_condF, r_gdTT, r_gdFF, r_gdTF, r_gdFT, r_gqTT, r_gqFF, r_gqTF, r_gqFT, r_not, r_lss, r_leq, r_gtr, r_geq, r_eql, r_neq, r_add, r_sub, r_min2, r_max2, r_min3, r_max3, r_fa, r_iaS, r_iaA, r_ex2a, r_ex2b, r_ex3a, r_ex3b, r_ex3c, r_nc, r_keepE, Nat.zero_add, Nat.add_zero, Nat.mul_one, Int.toNat_natCast, toNat_sub1, toNat_add1, decide_true, decide_false, Bool.not_true, Bool.not_false, if_true, if_false, Bool.false_eq_true, reduceCtorEq, r_ld c0, r_ld c1, r_ld c2, h1, h2, h3, h4, h5]; exact ⟨by simp [validB, h5], hk⟩
  by_cases h6 : C ≤ 4
  case neg => simp only [r_ln, r_pick, r_pickT, r_pickF, r_condT, r_condF, r_gdTT, r_gdFF, r_gdTF, r_gdFT, r_gqTT, r_gqFF, r_gqTF, r_gqFT, r_not, r_lss, r_leq, r_gtr, r_geq, r_eql, r_neq, r_add, r_sub, r_min2, r_max2, r_min3, r_max3, r_fa, r_iaS, r_iaA, r_ex2a, r_ex2b, r_ex3a, r_ex3b, r_ex3c, r_nc, r_keepE, Nat.zero_add, Nat.add_zero, Nat.mul_one, Int.toNat_natCast, toNat_sub1, toNat_add1, decide_true, decide_false, Bool.not_true, Bool.not_false, if_true, if_false, Bool.false_eq_true, reduceCtorEq, r_ld c0, r_ld c1, r_ld c2, h1, h2, h3, h4, h5, h6]; exact ⟨by simp [validB, h6], hk⟩
  simp only [r_ln, r_pick, r_pickT, r_pickF, r_condT, r_condF, r_gdTT, r_gdFF, r_gdTF, r_gdFT, r_gqTT, r_gqFF, r_gqTF, r_gqFT, r_not, r_lss, r_leq, r_gtr, r_geq, r_eql, r_neq, r_add, r_sub, r_min2, r_max2, r_min3, r_max3, r_fa, r_iaS, r_iaA, r_ex2a, r_ex2b, r_ex3a, r_ex3b, r_ex3c, r_nc, r_keepE, Nat.zero_add, Nat.add_zero, Nat.mul_one, Int.toNat_natCast, toNat_sub1, toNat_add1, decide_true, decide_false, Bool.not_true, Bool.not_false, if_true, if_false, Bool.false_eq_true, reduceCtorEq, r_ld c0, r_ld c1, r_ld c2, h1, h2, h3, h4, h5, h6]
  exact ⟨by simp [validB, *], hk⟩

theorem valid_calls (A B C : Int) (w : World) : Calls Try.prog 58 #[boxV A B C] w fun e w' => e = .returned (.bool (validB A B C)) ∧ Kp w w' := by
  refine lift58 ?_
  unfold S58
  refine r_box fun b w1 _ _ hb hk => ?_
  obtain ⟨c0, c1, c2⟩ := box3 hb
  by_cases h1 : 1 ≤ min (min A B) C
  case neg => simp only [r_ln, r_pick, r_pickT, r_pickF, r_condT, r_condF, r_gdTT, r_gdFF, r_gdTF, r_gdFT, r_gqTT, r_gqFF, r_gqTF, r_gqFT, r_not, r_lss, r_leq, r_gtr, r_geq, r_eql, r_neq, r_add, r_sub, r_min2, r_max2, r_min3, r_max3, r_fa, r_iaS, r_iaA, r_ex2a, r_ex2b, r_ex3a, r_ex3b, r_ex3c, r_nc, r_keepE, Nat.zero_add, Nat.add_zero, Nat.mul_one, Int.toNat_natCast, toNat_sub1, toNat_add1, decide_true, decide_false, Bool.not_true, Bool.not_false, if_true, if_false, Bool.false_eq_true, reduceCtorEq, r_ld c0, r_ld c1, r_ld c2, h1]; exact ⟨ret_bool (decide_eq_false (by omega)).symm, hk⟩
  by_cases h2 : max (max A B) C ≤ 4
  case neg => simp only [r_ln, r_pick, r_pickT, r_pickF, r_condT, r_condF, r_gdTT, r_gdFF, r_gdTF, r_gdFT, r_gqTT, r_gqFF, r_gqTF, r_gqFT, r_not, r_lss, r_leq, r_gtr, r_geq, r_eql, r_neq, r_add, r_sub, r_min2, r_max2, r_min3, r_max3, r_fa, r_iaS, r_iaA, r_ex2a, r_ex2b, r_ex3a, r_ex3b, r_ex3c, r_nc, r_keepE, Nat.zero_add, Nat.add_zero, Nat.mul_one, Int.toNat_natCast, toNat_sub1, toNat_add1, decide_true, decide_false, Bool.not_true, Bool.not_false, if_true, if_false, Bool.false_eq_true, reduceCtorEq, r_ld c0, r_ld c1, r_ld c2, h1, h2]; exact ⟨ret_bool (decide_eq_false (by omega)).symm, hk⟩
  simp only [r_ln, r_pick, r_pickT, r_pickF, r_condT, r_condF, r_gdTT, r_gdFF, r_gdTF, r_gdFT, r_gqTT, r_gqFF, r_gqTF, r_gqFT, r_not, r_lss, r_leq, r_gtr, r_geq, r_eql, r_neq, r_add, r_sub, r_min2, r_max2, r_min3, r_max3, r_fa, r_iaS, r_iaA, r_ex2a, r_ex2b, r_ex3a, r_ex3b, r_ex3c, r_nc, r_keepE, Nat.zero_add, Nat.add_zero, Nat.mul_one, Int.toNat_natCast, toNat_sub1, toNat_add1, decide_true, decide_false, Bool.not_true, Bool.not_false, if_true, if_false, Bool.false_eq_true, reduceCtorEq, r_ld c0, r_ld c1, r_ld c2, h1, h2]
  exact ⟨ret_bool (decide_eq_true (by omega)).symm, hk⟩

theorem most_calls (A B C : Int) (v : Value) (h : List (List Int)) (i j : Nat) (w : World) (hr : RdRows w v h) (hi : i < h.length) (hj : j < (h.getD i []).length) (hu : 0 < i → j < (h.getD (i - 1) []).length) :
    Calls Try.prog 48 #[boxV A B C, v, .int .i64 i, .int .i64 j] w fun e w' => e = .returned (.int .i64 (mostM C h i j)) ∧ Kp w w' := by
  obtain ⟨_, _, _, hl⟩ := hr.len
  obtain ⟨b1, o1, cap1, rv, rfl, hc, hrow⟩ := hr.row hi
  obtain ⟨_, _, _, hl2⟩ := hrow.len
  refine lift48 ?_
  unfold S48
  refine r_box fun b w1 _ _ hb hk => ?_
  obtain ⟨c0, c1, c2⟩ := box3 hb
  have hc' := cell_later hk hc
  simp (disch := omega) only [r_ln, r_pick, r_pickT, r_pickF, r_condT, r_condF, r_gdTT, r_gdFF, r_gdTF, r_gdFT, r_gqTT, r_gqFF, r_gqTF, r_gqFT, r_not, r_lss, r_leq, r_gtr, r_geq, r_eql, r_neq, r_add, r_sub, r_min2, r_max2, r_min3, r_max3, r_fa, r_iaS, r_iaA, r_ex2a, r_ex2b, r_ex3a, r_ex3b, r_ex3c, r_nc, r_keepE, Nat.zero_add, Nat.add_zero, Nat.mul_one, Int.toNat_natCast, toNat_sub1, toNat_add1, decide_true, decide_false, Bool.not_true, Bool.not_false, if_true, if_false, Bool.false_eq_true, reduceCtorEq, r_ld c2]
  refine r_join1 (fun t9 w2 => t9 = .int .i64 (if 0 < j then min C (hat h i (j - 1)) else C) ∧ Kp w w2) ?_ ?_
  · rintro _ w2 ⟨rfl, hk2⟩
    by_cases h0 : 0 < i
    · have h0' : (0 : Int) < i := by omega
      obtain ⟨b2, o2, cap2, rv2, he, hc2, hrow2⟩ := hr.row (i := i - 1) (by omega)
      cases he
      obtain ⟨b3, o3, cap3, rfl, hc3⟩ := hrow2.at (hu h0)
      have hc2' := cell_later hk2 hc2
      have hc3' := cell_later hk2 hc3
      have hui := hu h0
      simp (disch := omega) only [r_ln, r_pick, r_pickT, r_pickF, r_condT, r_condF, r_gdTT, r_gdFF, r_gdTF, r_gdFT, r_gqTT, r_gqFF, r_gqTF, r_gqFT, r_not, r_lss, r_leq, r_gtr, r_geq, r_eql, r_neq, r_add, r_sub, r_min2, r_max2, r_min3, r_max3, r_fa, r_iaS, r_iaA, r_ex2a, r_ex2b, r_ex3a, r_ex3b, r_ex3c, r_nc, r_keepE, Nat.zero_add, Nat.add_zero, Nat.mul_one, Int.toNat_natCast, toNat_sub1, toNat_add1, decide_true, decide_false, Bool.not_true, Bool.not_false, if_true, if_false, Bool.false_eq_true, reduceCtorEq, h0', r_ld hc2', r_ld hc3']
      exact ⟨ret_int (by simp only [mostM, h0, if_true]; rfl), hk2⟩
    · have h0' : ¬ (0 : Int) < i := by omega
      simp (disch := omega) only [r_ln, r_pick, r_pickT, r_pickF, r_condT, r_condF, r_gdTT, r_gdFF, r_gdTF, r_gdFT, r_gqTT, r_gqFF, r_gqTF, r_gqFT, r_not, r_lss, r_leq, r_gtr, r_geq, r_eql, r_neq, r_add, r_sub, r_min2, r_max2, r_min3, r_max3, r_fa, r_iaS, r_iaA, r_ex2a, r_ex2b, r_ex3a, r_ex3b, r_ex3c, r_nc, r_keepE, Nat.zero_add, Nat.add_zero, Nat.mul_one, Int.toNat_natCast, toNat_sub1, toNat_add1, decide_true, decide_false, Bool.not_true, Bool.not_false, if_true, if_false, Bool.false_eq_true, reduceCtorEq, h0']
      exact ⟨ret_int (by simp only [mostM, h0, if_false]), hk2⟩
  · intro k hkk
    by_cases h0 : 0 < j
    · have h0' : (0 : Int) < j := by omega
      obtain ⟨b3, o3, cap3, rfl, hc3⟩ := hrow.at (j := j - 1) (by omega)
      have hc3' := cell_later hk hc3
      simp (disch := omega) only [r_ln, r_pick, r_pickT, r_pickF, r_condT, r_condF, r_gdTT, r_gdFF, r_gdTF, r_gdFT, r_gqTT, r_gqFF, r_gqTF, r_gqFT, r_not, r_lss, r_leq, r_gtr, r_geq, r_eql, r_neq, r_add, r_sub, r_min2, r_max2, r_min3, r_max3, r_fa, r_iaS, r_iaA, r_ex2a, r_ex2b, r_ex3a, r_ex3b, r_ex3c, r_nc, r_keepE, Nat.zero_add, Nat.add_zero, Nat.mul_one, Int.toNat_natCast, toNat_sub1, toNat_add1, decide_true, decide_false, Bool.not_true, Bool.not_false, if_true, if_false, Bool.false_eq_true, reduceCtorEq, h0', r_ld hc', r_ld hc3']
      exact hkk _ _ ⟨by simp only [h0, if_true]; rfl, hk⟩
    · have h0' : ¬ (0 : Int) < j := by omega
      simp (disch := omega) only [r_ln, r_pick, r_pickT, r_pickF, r_condT, r_condF, r_gdTT, r_gdFF, r_gdTF, r_gdFT, r_gqTT, r_gqFF, r_gqTF, r_gqFT, r_not, r_lss, r_leq, r_gtr, r_geq, r_eql, r_neq, r_add, r_sub, r_min2, r_max2, r_min3, r_max3, r_fa, r_iaS, r_iaA, r_ex2a, r_ex2b, r_ex3a, r_ex3b, r_ex3c, r_nc, r_keepE, Nat.zero_add, Nat.add_zero, Nat.mul_one, Int.toNat_natCast, toNat_sub1, toNat_add1, decide_true, decide_false, Bool.not_true, Bool.not_false, if_true, if_false, Bool.false_eq_true, reduceCtorEq, h0']
      exact hkk _ _ ⟨by simp only [h0, if_false], hk⟩

end Go.Proofs.Ytaephdjmpmbfpaa

/- Contracts: In, is, checked. -/
namespace Go.Proofs.Ytaephdjmpmbfpaa
open Go.Lf Go.RowKit Go.Hp

theorem fok48' : fnOk Try.prog 48 = true := fok48

theorem in_calls (A B C : Int) (v : Value) (h : List (List Int)) (w : World) (hr : RdRows w v h) :
    Calls Try.prog 15 #[boxV A B C, v] w fun e w' => e = .returned (.bool (heapOk A B C h)) ∧ Kp w w' := by
  obtain ⟨a, cap, hv, hl⟩ := hr.len
  subst hv
  refine lift15 ?_
  unfold S15
  refine r_box fun b w1 _ _ hb hk => ?_
  obtain ⟨c0, c1, c2⟩ := box3 hb
  by_cases hA : (h.length : Int) = A
  case neg =>
    simp only [r_ln, r_pick, r_pickT, r_pickF, r_condT, r_condF, r_gdTT, r_gdFF, r_gdTF, r_gdFT, r_gqTT, r_gqFF, r_gqTF, r_gqFT, r_not, r_lss, r_leq, r_gtr, r_geq, r_eql, r_neq, r_add, r_sub, r_min2, r_max2, r_min3, r_max3, r_fa, r_iaS, r_iaA, r_ex2a, r_ex2b, r_ex3a, r_ex3b, r_ex3c, r_nc, r_keepE, Nat.zero_add, Nat.add_zero, Nat.mul_one, Int.toNat_natCast, toNat_sub1, toNat_add1, decide_true, decide_false, Bool.not_true, Bool.not_false, if_true, if_false, Bool.false_eq_true, reduceCtorEq, r_ld c0, hA]
    exact ⟨ret_bool (heapOk_len hA).symm, hk⟩
  simp only [r_ln, r_pick, r_pickT, r_pickF, r_condT, r_condF, r_gdTT, r_gdFF, r_gdTF, r_gdFT, r_gqTT, r_gqFF, r_gqTF, r_gqFT, r_not, r_lss, r_leq, r_gtr, r_geq, r_eql, r_neq, r_add, r_sub, r_min2, r_max2, r_min3, r_max3, r_fa, r_iaS, r_iaA, r_ex2a, r_ex2b, r_ex3a, r_ex3b, r_ex3c, r_nc, r_keepE, Nat.zero_add, Nat.add_zero, Nat.mul_one, Int.toNat_natCast, toNat_sub1, toNat_add1, decide_true, decide_false, Bool.not_true, Bool.not_false, if_true, if_false, Bool.false_eq_true, reduceCtorEq, r_ld c0, hA]
  refine ⟨fun t5 wr => ∃ i : Nat, i ≤ h.length ∧ t5 = .int .i64 i ∧ Kp w1 wr ∧ ∀ i', i' < i → rowOk B C h i' = true, fun t5 _ => h.length - (intOf t5).toNat, ⟨0, by omega, rfl, Kp.refl _, by omega⟩, ?_⟩
  rintro _ _ wr ⟨i, hi, rfl, hk1, hprev⟩
  have hkr := Kp.trans hk hk1
  have d0 := cell_later hk1 c0
  have d1 := cell_later hk1 c1
  by_cases hlt : i < h.length
  case neg =>
    have hlt' : ¬ (i : Int) < A := by omega
    simp only [r_ln, r_pick, r_pickT, r_pickF, r_condT, r_condF, r_gdTT, r_gdFF, r_gdTF, r_gdFT, r_gqTT, r_gqFF, r_gqTF, r_gqFT, r_not, r_lss, r_leq, r_gtr, r_geq, r_eql, r_neq, r_add, r_sub, r_min2, r_max2, r_min3, r_max3, r_fa, r_iaS, r_iaA, r_ex2a, r_ex2b, r_ex3a, r_ex3b, r_ex3c, r_nc, r_keepE, Nat.zero_add, Nat.add_zero, Nat.mul_one, Int.toNat_natCast, toNat_sub1, toNat_add1, decide_true, decide_false, Bool.not_true, Bool.not_false, if_true, if_false, Bool.false_eq_true, reduceCtorEq, r_ld d0, hlt']
    exact ⟨ret_bool (heapOk_true hA fun i' hi' => hprev i' (by omega)).symm, hkr⟩
  have hlt' : (i : Int) < A := by omega
  obtain ⟨b1, o1, cap1, rv, he, hc, hrow⟩ := hr.row hlt
  cases he
  obtain ⟨ra, rcap, hrv, hrl⟩ := hrow.len
  subst hrv
  simp only [r_ln, r_pick, r_pickT, r_pickF, r_condT, r_condF, r_gdTT, r_gdFF, r_gdTF, r_gdFT, r_gqTT, r_gqFF, r_gqTF, r_gqFT, r_not, r_lss, r_leq, r_gtr, r_geq, r_eql, r_neq, r_add, r_sub, r_min2, r_max2, r_min3, r_max3, r_fa, r_iaS, r_iaA, r_ex2a, r_ex2b, r_ex3a, r_ex3b, r_ex3c, r_nc, r_keepE, Nat.zero_add, Nat.add_zero, Nat.mul_one, Int.toNat_natCast, toNat_sub1, toNat_add1, decide_true, decide_false, Bool.not_true, Bool.not_false, if_true, if_false, Bool.false_eq_true, reduceCtorEq, r_ld d0, hlt']
  refine r_drew fun w2 hk2 _ => ?_
  have hk2' := Kp.trans hkr hk2
  have hc2 := cell_later hk2' hc
  have f1 := cell_later hk2 d1
  by_cases hB : ((h.getD i []).length : Int) = B
  case neg =>
    simp (disch := omega) only [r_ln, r_pick, r_pickT, r_pickF, r_condT, r_condF, r_gdTT, r_gdFF, r_gdTF, r_gdFT, r_gqTT, r_gqFF, r_gqTF, r_gqFT, r_not, r_lss, r_leq, r_gtr, r_geq, r_eql, r_neq, r_add, r_sub, r_min2, r_max2, r_min3, r_max3, r_fa, r_iaS, r_iaA, r_ex2a, r_ex2b, r_ex3a, r_ex3b, r_ex3c, r_nc, r_keepE, Nat.zero_add, Nat.add_zero, Nat.mul_one, Int.toNat_natCast, toNat_sub1, toNat_add1, decide_true, decide_false, Bool.not_true, Bool.not_false, if_true, if_false, Bool.false_eq_true, reduceCtorEq, r_ld hc2, r_ld f1, hB]
    exact ⟨ret_bool (heapOk_row hlt (rowOk_len0 hB)).symm, hk2'⟩
  simp (disch := omega) only [r_ln, r_pick, r_pickT, r_pickF, r_condT, r_condF, r_gdTT, r_gdFF, r_gdTF, r_gdFT, r_gqTT, r_gqFF, r_gqTF, r_gqFT, r_not, r_lss, r_leq, r_gtr, r_geq, r_eql, r_neq, r_add, r_sub, r_min2, r_max2, r_min3, r_max3, r_fa, r_iaS, r_iaA, r_ex2a, r_ex2b, r_ex3a, r_ex3b, r_ex3c, r_nc, r_keepE, Nat.zero_add, Nat.add_zero, Nat.mul_one, Int.toNat_natCast, toNat_sub1, toNat_add1, decide_true, decide_false, Bool.not_true, Bool.not_false, if_true, if_false, Bool.false_eq_true, reduceCtorEq, r_ld hc2, r_ld f1, hB]
  refine ⟨fun t6 wr => ∃ j : Nat, j ≤ (h.getD i []).length ∧ t6 = .int .i64 j ∧ Kp w1 wr ∧ ∀ j', j' < j → okAt C h i j' = true, fun t6 _ => (h.getD i []).length - (intOf t6).toNat, ⟨0, by omega, rfl, Kp.trans hk1 hk2, by omega⟩, ?_⟩
  rintro _ _ wr3 ⟨j, hj, rfl, hk3, hok⟩
  have hk3' := Kp.trans hk hk3
  have g1 := cell_later hk3 c1
  by_cases hjl : j < (h.getD i []).length
  case neg =>
    have hjl' : ¬ (j : Int) < B := by omega
    simp (disch := omega) only [r_ln, r_pick, r_pickT, r_pickF, r_condT, r_condF, r_gdTT, r_gdFF, r_gdTF, r_gdFT, r_gqTT, r_gqFF, r_gqTF, r_gqFT, r_not, r_lss, r_leq, r_gtr, r_geq, r_eql, r_neq, r_add, r_sub, r_min2, r_max2, r_min3, r_max3, r_fa, r_iaS, r_iaA, r_ex2a, r_ex2b, r_ex3a, r_ex3b, r_ex3c, r_nc, r_keepE, Nat.zero_add, Nat.add_zero, Nat.mul_one, Int.toNat_natCast, toNat_sub1, toNat_add1, decide_true, decide_false, Bool.not_true, Bool.not_false, if_true, if_false, Bool.false_eq_true, reduceCtorEq, r_ld g1, hjl']
    exact ⟨⟨i + 1, by omega, by go_num, hk3, fun i' hi' => if e : i' < i then hprev i' e else (show i' = i by omega) ▸ rowOk_true hB fun j' hj' => hok j' (by omega)⟩, by simp only [intOf]; omega⟩
  have hjl' : (j : Int) < B := by omega
  simp (disch := omega) only [r_ln, r_pick, r_pickT, r_pickF, r_condT, r_condF, r_gdTT, r_gdFF, r_gdTF, r_gdFT, r_gqTT, r_gqFF, r_gqTF, r_gqFT, r_not, r_lss, r_leq, r_gtr, r_geq, r_eql, r_neq, r_add, r_sub, r_min2, r_max2, r_min3, r_max3, r_fa, r_iaS, r_iaA, r_ex2a, r_ex2b, r_ex3a, r_ex3b, r_ex3c, r_nc, r_keepE, Nat.zero_add, Nat.add_zero, Nat.mul_one, Int.toNat_natCast, toNat_sub1, toNat_add1, decide_true, decide_false, Bool.not_true, Bool.not_false, if_true, if_false, Bool.false_eq_true, reduceCtorEq, r_ld g1, hjl']
  refine r_drew fun w4 hk4 _ => ?_
  have hk4' := Kp.trans hk3' hk4
  have hc4 := cell_later hk4' hc
  have hb4 := block_below hb (Kp.trans hk3 hk4)
  obtain ⟨rb, ro, _, he, hce⟩ := hrow.at hjl
  cases he
  have hce4 := cell_later hk4' hce
  have hx : hat h i j = (h.getD i []).getD j 0 := rfl
  by_cases hneg : (h.getD i []).getD j 0 < 0
  case pos =>
    simp (disch := omega) only [r_ln, r_pick, r_pickT, r_pickF, r_condT, r_condF, r_gdTT, r_gdFF, r_gdTF, r_gdFT, r_gqTT, r_gqFF, r_gqTF, r_gqFT, r_not, r_lss, r_leq, r_gtr, r_geq, r_eql, r_neq, r_add, r_sub, r_min2, r_max2, r_min3, r_max3, r_fa, r_iaS, r_iaA, r_ex2a, r_ex2b, r_ex3a, r_ex3b, r_ex3c, r_nc, r_keepE, Nat.zero_add, Nat.add_zero, Nat.mul_one, Int.toNat_natCast, toNat_sub1, toNat_add1, decide_true, decide_false, Bool.not_true, Bool.not_false, if_true, if_false, Bool.false_eq_true, reduceCtorEq, r_ld hc4, r_ld hce4, hneg]
    exact ⟨Below.refl _ _, ret_bool (heapOk_row hlt (rowOk_at hjl (by simp only [okAt]; exact decide_eq_false (by omega)))).symm, hk4'⟩
  simp (disch := omega) only [r_ln, r_pick, r_pickT, r_pickF, r_condT, r_condF, r_gdTT, r_gdFF, r_gdTF, r_gdFT, r_gqTT, r_gqFF, r_gqTF, r_gqFT, r_not, r_lss, r_leq, r_gtr, r_geq, r_eql, r_neq, r_add, r_sub, r_min2, r_max2, r_min3, r_max3, r_fa, r_iaS, r_iaA, r_ex2a, r_ex2b, r_ex3a, r_ex3b, r_ex3c, r_nc, r_keepE, Nat.zero_add, Nat.add_zero, Nat.mul_one, Int.toNat_natCast, toNat_sub1, toNat_add1, decide_true, decide_false, Bool.not_true, Bool.not_false, if_true, if_false, Bool.false_eq_true, reduceCtorEq, r_ld hc4, r_ld hce4, hneg, r_ldRow (n := 3) hb4 rfl]
  refine r_use fok48 (most_calls A B C _ h i j w4 (hr.below hk4') hlt hjl fun h0 => by have := rowOk_len (hprev (i - 1) (by omega)); omega) rfl ?_
  rintro e w5 ⟨rfl, hk5⟩
  refine ⟨_, rfl, hk5, ?_⟩
  have hk5' := Kp.trans hk4' hk5
  by_cases hm : mostM C h i j < (h.getD i []).getD j 0
  · simp (disch := omega) only [r_ln, r_pick, r_pickT, r_pickF, r_condT, r_condF, r_gdTT, r_gdFF, r_gdTF, r_gdFT, r_gqTT, r_gqFF, r_gqTF, r_gqFT, r_not, r_lss, r_leq, r_gtr, r_geq, r_eql, r_neq, r_add, r_sub, r_min2, r_max2, r_min3, r_max3, r_fa, r_iaS, r_iaA, r_ex2a, r_ex2b, r_ex3a, r_ex3b, r_ex3c, r_nc, r_keepE, Nat.zero_add, Nat.add_zero, Nat.mul_one, Int.toNat_natCast, toNat_sub1, toNat_add1, decide_true, decide_false, Bool.not_true, Bool.not_false, if_true, if_false, Bool.false_eq_true, reduceCtorEq, hm]
    exact ⟨ret_bool (heapOk_row hlt (rowOk_at hjl (by simp only [okAt]; exact decide_eq_false (by omega)))).symm, hk5'⟩
  · simp (disch := omega) only [r_ln, r_pick, r_pickT, r_pickF, r_condT, r_condF, r_gdTT, r_gdFF, r_gdTF, r_gdFT, r_gqTT, r_gqFF, r_gqTF, r_gqFT, r_not, r_lss, r_leq, r_gtr, r_geq, r_eql, r_neq, r_add, r_sub, r_min2, r_max2, r_min3, r_max3, r_fa, r_iaS, r_iaA, r_ex2a, r_ex2b, r_ex3a, r_ex3b, r_ex3c, r_nc, r_keepE, Nat.zero_add, Nat.add_zero, Nat.mul_one, Int.toNat_natCast, toNat_sub1, toNat_add1, decide_true, decide_false, Bool.not_true, Bool.not_false, if_true, if_false, Bool.false_eq_true, reduceCtorEq, hm]
    have hokj : okAt C h i j = true := decide_eq_true (by omega)
    exact ⟨⟨j + 1, by omega, by go_num, Kp.trans (Kp.trans hk3 hk4) hk5, fun j' hj' => if e : j' < j then hok j' e else (show j' = j by omega) ▸ hokj⟩, by simp only [intOf]; omega⟩

theorem is_calls (A B C : Int) (v : Value) (h : List (List Int)) (w : World) (hr : RdRows w v h) :
    Calls Try.prog 67 #[boxV A B C, v] w fun e w' => e = .returned (.bool (heapOk A B C h)) ∧ Kp w w' := by
  obtain ⟨a, cap, hv, hl⟩ := hr.len
  subst hv
  refine lift67 ?_
  unfold S67
  refine r_box fun b w1 _ _ hb hk => ?_
  obtain ⟨c0, c1, c2⟩ := box3 hb
  by_cases hA : (h.length : Int) = A
  case neg =>
    simp only [r_ln, r_pick, r_pickT, r_pickF, r_condT, r_condF, r_gdTT, r_gdFF, r_gdTF, r_gdFT, r_gqTT, r_gqFF, r_gqTF, r_gqFT, r_not, r_lss, r_leq, r_gtr, r_geq, r_eql, r_neq, r_add, r_sub, r_min2, r_max2, r_min3, r_max3, r_fa, r_iaS, r_iaA, r_ex2a, r_ex2b, r_ex3a, r_ex3b, r_ex3c, r_nc, r_keepE, Nat.zero_add, Nat.add_zero, Nat.mul_one, Int.toNat_natCast, toNat_sub1, toNat_add1, decide_true, decide_false, Bool.not_true, Bool.not_false, if_true, if_false, Bool.false_eq_true, reduceCtorEq, r_ld c0, hA]
    exact ⟨ret_bool (heapOk_len hA).symm, hk⟩
  simp only [r_ln, r_pick, r_pickT, r_pickF, r_condT, r_condF, r_gdTT, r_gdFF, r_gdTF, r_gdFT, r_gqTT, r_gqFF, r_gqTF, r_gqFT, r_not, r_lss, r_leq, r_gtr, r_geq, r_eql, r_neq, r_add, r_sub, r_min2, r_max2, r_min3, r_max3, r_fa, r_iaS, r_iaA, r_ex2a, r_ex2b, r_ex3a, r_ex3b, r_ex3c, r_nc, r_keepE, Nat.zero_add, Nat.add_zero, Nat.mul_one, Int.toNat_natCast, toNat_sub1, toNat_add1, decide_true, decide_false, Bool.not_true, Bool.not_false, if_true, if_false, Bool.false_eq_true, reduceCtorEq, r_ld c0, hA]
  refine ⟨fun t5 wr => ∃ i : Nat, i ≤ h.length ∧ t5 = .int .i64 i ∧ w1 = wr ∧ ∀ i', i' < i → rowOk B C h i' = true, fun t5 _ => h.length - (intOf t5).toNat, ⟨0, by omega, rfl, rfl, by omega⟩, ?_⟩
  rintro _ _ _ ⟨i, hi, rfl, rfl, hprev⟩
  by_cases hlt : i < h.length
  case neg =>
    have hlt' : ¬ (i : Int) < A := by omega
    simp only [r_ln, r_pick, r_pickT, r_pickF, r_condT, r_condF, r_gdTT, r_gdFF, r_gdTF, r_gdFT, r_gqTT, r_gqFF, r_gqTF, r_gqFT, r_not, r_lss, r_leq, r_gtr, r_geq, r_eql, r_neq, r_add, r_sub, r_min2, r_max2, r_min3, r_max3, r_fa, r_iaS, r_iaA, r_ex2a, r_ex2b, r_ex3a, r_ex3b, r_ex3c, r_nc, r_keepE, Nat.zero_add, Nat.add_zero, Nat.mul_one, Int.toNat_natCast, toNat_sub1, toNat_add1, decide_true, decide_false, Bool.not_true, Bool.not_false, if_true, if_false, Bool.false_eq_true, reduceCtorEq, hlt']
    exact ⟨ret_bool (heapOk_true hA fun i' hi' => hprev i' (by omega)).symm, hk⟩
  have hlt' : (i : Int) < A := by omega
  obtain ⟨b1, o1, cap1, rv, he, hc, hrow⟩ := hr.row hlt
  cases he
  obtain ⟨ra, rcap, hrv, hrl⟩ := hrow.len
  subst hrv
  have hc2 := cell_later hk hc
  by_cases hB : ((h.getD i []).length : Int) = B
  case neg =>
    simp (disch := omega) only [r_ln, r_pick, r_pickT, r_pickF, r_condT, r_condF, r_gdTT, r_gdFF, r_gdTF, r_gdFT, r_gqTT, r_gqFF, r_gqTF, r_gqFT, r_not, r_lss, r_leq, r_gtr, r_geq, r_eql, r_neq, r_add, r_sub, r_min2, r_max2, r_min3, r_max3, r_fa, r_iaS, r_iaA, r_ex2a, r_ex2b, r_ex3a, r_ex3b, r_ex3c, r_nc, r_keepE, Nat.zero_add, Nat.add_zero, Nat.mul_one, Int.toNat_natCast, toNat_sub1, toNat_add1, decide_true, decide_false, Bool.not_true, Bool.not_false, if_true, if_false, Bool.false_eq_true, reduceCtorEq, r_ld hc2, r_ld c1, hB, hlt']
    exact ⟨ret_bool (heapOk_row hlt (rowOk_len0 hB)).symm, hk⟩
  simp (disch := omega) only [r_ln, r_pick, r_pickT, r_pickF, r_condT, r_condF, r_gdTT, r_gdFF, r_gdTF, r_gdFT, r_gqTT, r_gqFF, r_gqTF, r_gqFT, r_not, r_lss, r_leq, r_gtr, r_geq, r_eql, r_neq, r_add, r_sub, r_min2, r_max2, r_min3, r_max3, r_fa, r_iaS, r_iaA, r_ex2a, r_ex2b, r_ex3a, r_ex3b, r_ex3c, r_nc, r_keepE, Nat.zero_add, Nat.add_zero, Nat.mul_one, Int.toNat_natCast, toNat_sub1, toNat_add1, decide_true, decide_false, Bool.not_true, Bool.not_false, if_true, if_false, Bool.false_eq_true, reduceCtorEq, r_ld hc2, r_ld c1, hB, hlt']
  refine ⟨fun t6 w' => ∃ j : Nat, j ≤ (h.getD i []).length ∧ t6 = .int .i64 j ∧ w1 = w' ∧ ∀ j', j' < j → okAt C h i j' = true, fun t6 _ => (h.getD i []).length - (intOf t6).toNat, ⟨0, by omega, rfl, rfl, by omega⟩, ?_⟩
  rintro _ _ _ ⟨j, hj, rfl, rfl, hok⟩
  by_cases hjl : j < (h.getD i []).length
  case neg =>
    have hjl' : ¬ (j : Int) < B := by omega
    simp (disch := omega) only [r_ln, r_pick, r_pickT, r_pickF, r_condT, r_condF, r_gdTT, r_gdFF, r_gdTF, r_gdFT, r_gqTT, r_gqFF, r_gqTF, r_gqFT, r_not, r_lss, r_leq, r_gtr, r_geq, r_eql, r_neq, r_add, r_sub, r_min2, r_max2, r_min3, r_max3, r_fa, r_iaS, r_iaA, r_ex2a, r_ex2b, r_ex3a, r_ex3b, r_ex3c, r_nc, r_keepE, Nat.zero_add, Nat.add_zero, Nat.mul_one, Int.toNat_natCast, toNat_sub1, toNat_add1, decide_true, decide_false, Bool.not_true, Bool.not_false, if_true, if_false, Bool.false_eq_true, reduceCtorEq, hjl']
    exact ⟨⟨i + 1, by omega, by go_num, trivial, fun i' hi' => if e : i' < i then hprev i' e else (show i' = i by omega) ▸ rowOk_true hB fun j' hj' => hok j' (by omega)⟩, by simp only [intOf]; omega⟩
  have hjl' : (j : Int) < B := by omega
  obtain ⟨rb, ro, _, he, hce⟩ := hrow.at hjl
  cases he
  have hce' := cell_later hk hce
  have hx : hat h i j = (h.getD i []).getD j 0 := rfl
  have fin0 : okAt C h i j = false → heapOk A B C h = false := fun e => heapOk_row hlt (rowOk_at hjl e)
  have fin1 : okAt C h i j = true → ∀ j', j' < j + 1 → okAt C h i j' = true := fun e1 j' hj' => if e : j' < j then hok j' e else (show j' = j by omega) ▸ e1
  have bad : ¬ (0 ≤ hat h i j ∧ hat h i j ≤ C ∧ (0 < j → hat h i j ≤ hat h i (j - 1)) ∧ (0 < i → hat h i j ≤ hat h (i - 1) j)) → heapOk A B C h = false := fun e => fin0 (by
    cases ho : okAt C h i j with
    | false => rfl
    | true => exact absurd (okAt_iff.1 ho) e)
  by_cases hneg : (h.getD i []).getD j 0 < 0
  case pos =>
    simp (disch := omega) only [r_ln, r_pick, r_pickT, r_pickF, r_condT, r_condF, r_gdTT, r_gdFF, r_gdTF, r_gdFT, r_gqTT, r_gqFF, r_gqTF, r_gqFT, r_not, r_lss, r_leq, r_gtr, r_geq, r_eql, r_neq, r_add, r_sub, r_min2, r_max2, r_min3, r_max3, r_fa, r_iaS, r_iaA, r_ex2a, r_ex2b, r_ex3a, r_ex3b, r_ex3c, r_nc, r_keepE, Nat.zero_add, Nat.add_zero, Nat.mul_one, Int.toNat_natCast, toNat_sub1, toNat_add1, decide_true, decide_false, Bool.not_true, Bool.not_false, if_true, if_false, Bool.false_eq_true, reduceCtorEq, hjl', r_ld hce', hneg]
    exact ⟨ret_bool (bad (by omega)).symm, hk⟩
  by_cases hC : C < (h.getD i []).getD j 0
  case pos =>
    simp (disch := omega) only [r_ln, r_pick, r_pickT, r_pickF, r_condT, r_condF, r_gdTT, r_gdFF, r_gdTF, r_gdFT, r_gqTT, r_gqFF, r_gqTF, r_gqFT, r_not, r_lss, r_leq, r_gtr, r_geq, r_eql, r_neq, r_add, r_sub, r_min2, r_max2, r_min3, r_max3, r_fa, r_iaS, r_iaA, r_ex2a, r_ex2b, r_ex3a, r_ex3b, r_ex3c, r_nc, r_keepE, Nat.zero_add, Nat.add_zero, Nat.mul_one, Int.toNat_natCast, toNat_sub1, toNat_add1, decide_true, decide_false, Bool.not_true, Bool.not_false, if_true, if_false, Bool.false_eq_true, reduceCtorEq, hjl', r_ld hce', r_ld c2, hneg, hC]
    exact ⟨ret_bool (bad (by omega)).symm, hk⟩
  -- the row above
  have up : 0 < i → ∃ rv2 b2 o2 cap2, rv2 = .slice (some ⟨b2, o2, none⟩) (h.getD (i - 1) []).length cap2 ∧ w1.cell? ⟨b1, o1 + (i - 1), none⟩ = some rv2 ∧ j < (h.getD (i - 1) []).length ∧
      w1.cell? ⟨b2, o2 + j, none⟩ = some (.int .i64 (hat h (i - 1) j)) := fun h0 => by
    obtain ⟨_, _, _, rv2, he, hc2, hrow2⟩ := hr.row (i := i - 1) (by omega)
    cases he
    have hlen := rowOk_len (hprev (i - 1) (by omega))
    obtain ⟨b2, o2, cap2, e2, hc3⟩ := hrow2.at (j := j) (by omega)
    exact ⟨rv2, b2, o2, cap2, e2, cell_later hk hc2, by omega, cell_later hk hc3⟩
  by_cases hj0 : 0 < j
  case pos =>
    have hj0' : (0 : Int) < j := by omega
    obtain ⟨_, _, _, he, hcl⟩ := hrow.at (j := j - 1) (by omega)
    cases he
    have hcl' := cell_later hk hcl
    have hy : hat h i (j - 1) = (h.getD i []).getD (j - 1) 0 := rfl
    by_cases hl1 : (h.getD i []).getD (j - 1) 0 < (h.getD i []).getD j 0
    case pos =>
      simp (disch := omega) only [r_ln, r_pick, r_pickT, r_pickF, r_condT, r_condF, r_gdTT, r_gdFF, r_gdTF, r_gdFT, r_gqTT, r_gqFF, r_gqTF, r_gqFT, r_not, r_lss, r_leq, r_gtr, r_geq, r_eql, r_neq, r_add, r_sub, r_min2, r_max2, r_min3, r_max3, r_fa, r_iaS, r_iaA, r_ex2a, r_ex2b, r_ex3a, r_ex3b, r_ex3c, r_nc, r_keepE, Nat.zero_add, Nat.add_zero, Nat.mul_one, Int.toNat_natCast, toNat_sub1, toNat_add1, decide_true, decide_false, Bool.not_true, Bool.not_false, if_true, if_false, Bool.false_eq_true, reduceCtorEq, hjl', r_ld hce', r_ld c2, hneg, hC, hj0', r_ld hcl', hl1]
      exact ⟨ret_bool (bad (by omega)).symm, hk⟩
    by_cases hi0 : 0 < i
    case pos =>
      have hi0' : (0 : Int) < i := by omega
      obtain ⟨rv2, b2, o2, cap2, rfl, hcu, hju, hcv⟩ := up hi0
      by_cases hl2 : hat h (i - 1) j < (h.getD i []).getD j 0
      case pos =>
        simp (disch := omega) only [r_ln, r_pick, r_pickT, r_pickF, r_condT, r_condF, r_gdTT, r_gdFF, r_gdTF, r_gdFT, r_gqTT, r_gqFF, r_gqTF, r_gqFT, r_not, r_lss, r_leq, r_gtr, r_geq, r_eql, r_neq, r_add, r_sub, r_min2, r_max2, r_min3, r_max3, r_fa, r_iaS, r_iaA, r_ex2a, r_ex2b, r_ex3a, r_ex3b, r_ex3c, r_nc, r_keepE, Nat.zero_add, Nat.add_zero, Nat.mul_one, Int.toNat_natCast, toNat_sub1, toNat_add1, decide_true, decide_false, Bool.not_true, Bool.not_false, if_true, if_false, Bool.false_eq_true, reduceCtorEq, hjl', r_ld hce', r_ld c2, hneg, hC, hj0', r_ld hcl', hl1, hi0', r_ld hcu, r_ld hcv, hl2]
        exact ⟨ret_bool (bad (by omega)).symm, hk⟩
      simp (disch := omega) only [r_ln, r_pick, r_pickT, r_pickF, r_condT, r_condF, r_gdTT, r_gdFF, r_gdTF, r_gdFT, r_gqTT, r_gqFF, r_gqTF, r_gqFT, r_not, r_lss, r_leq, r_gtr, r_geq, r_eql, r_neq, r_add, r_sub, r_min2, r_max2, r_min3, r_max3, r_fa, r_iaS, r_iaA, r_ex2a, r_ex2b, r_ex3a, r_ex3b, r_ex3c, r_nc, r_keepE, Nat.zero_add, Nat.add_zero, Nat.mul_one, Int.toNat_natCast, toNat_sub1, toNat_add1, decide_true, decide_false, Bool.not_true, Bool.not_false, if_true, if_false, Bool.false_eq_true, reduceCtorEq, hjl', r_ld hce', r_ld c2, hneg, hC, hj0', r_ld hcl', hl1, hi0', r_ld hcu, r_ld hcv, hl2]
      exact ⟨⟨j + 1, by omega, by go_num, trivial, fin1 (okAt_iff.2 (by omega))⟩, by simp only [intOf]; omega⟩
    have hi0' : ¬ (0 : Int) < i := by omega
    simp (disch := omega) only [r_ln, r_pick, r_pickT, r_pickF, r_condT, r_condF, r_gdTT, r_gdFF, r_gdTF, r_gdFT, r_gqTT, r_gqFF, r_gqTF, r_gqFT, r_not, r_lss, r_leq, r_gtr, r_geq, r_eql, r_neq, r_add, r_sub, r_min2, r_max2, r_min3, r_max3, r_fa, r_iaS, r_iaA, r_ex2a, r_ex2b, r_ex3a, r_ex3b, r_ex3c, r_nc, r_keepE, Nat.zero_add, Nat.add_zero, Nat.mul_one, Int.toNat_natCast, toNat_sub1, toNat_add1, decide_true, decide_false, Bool.not_true, Bool.not_false, if_true, if_false, Bool.false_eq_true, reduceCtorEq, hjl', r_ld hce', r_ld c2, hneg, hC, hj0', r_ld hcl', hl1, hi0']
    exact ⟨⟨j + 1, by omega, by go_num, trivial, fin1 (okAt_iff.2 (by omega))⟩, by simp only [intOf]; omega⟩
  have hj0' : ¬ (0 : Int) < j := by omega
  by_cases hi0 : 0 < i
  case pos =>
    have hi0' : (0 : Int) < i := by omega
    obtain ⟨rv2, b2, o2, cap2, rfl, hcu, hju, hcv⟩ := up hi0
    by_cases hl2 : hat h (i - 1) j < (h.getD i []).getD j 0
    case pos =>
      simp (disch := omega) only [r_ln, r_pick, r_pickT, r_pickF, r_condT, r_condF, r_gdTT, r_gdFF, r_gdTF, r_gdFT, r_gqTT, r_gqFF, r_gqTF, r_gqFT, r_not, r_lss, r_leq, r_gtr, r_geq, r_eql, r_neq, r_add, r_sub, r_min2, r_max2, r_min3, r_max3, r_fa, r_iaS, r_iaA, r_ex2a, r_ex2b, r_ex3a, r_ex3b, r_ex3c, r_nc, r_keepE, Nat.zero_add, Nat.add_zero, Nat.mul_one, Int.toNat_natCast, toNat_sub1, toNat_add1, decide_true, decide_false, Bool.not_true, Bool.not_false, if_true, if_false, Bool.false_eq_true, reduceCtorEq, hjl', r_ld hce', r_ld c2, hneg, hC, hj0', hi0', r_ld hcu, r_ld hcv, hl2]
      exact ⟨ret_bool (bad (by omega)).symm, hk⟩
    simp (disch := omega) only [r_ln, r_pick, r_pickT, r_pickF, r_condT, r_condF, r_gdTT, r_gdFF, r_gdTF, r_gdFT, r_gqTT, r_gqFF, r_gqTF, r_gqFT, r_not, r_lss, r_leq, r_gtr, r_geq, r_eql, r_neq, r_add, r_sub, r_min2, r_max2, r_min3, r_max3, r_fa, r_iaS, r_iaA, r_ex2a, r_ex2b, r_ex3a, r_ex3b, r_ex3c, r_nc, r_keepE, Nat.zero_add, Nat.add_zero, Nat.mul_one, Int.toNat_natCast, toNat_sub1, toNat_add1, decide_true, decide_false, Bool.not_true, Bool.not_false, if_true, if_false, Bool.false_eq_true, reduceCtorEq, hjl', r_ld hce', r_ld c2, hneg, hC, hj0', hi0', r_ld hcu, r_ld hcv, hl2]
    exact ⟨⟨j + 1, by omega, by go_num, trivial, fin1 (okAt_iff.2 (by omega))⟩, by simp only [intOf]; omega⟩
  have hi0' : ¬ (0 : Int) < i := by omega
  simp (disch := omega) only [r_ln, r_pick, r_pickT, r_pickF, r_condT, r_condF, r_gdTT, r_gdFF, r_gdTF, r_gdFT, r_gqTT, r_gqFF, r_gqTF, r_gqFT, r_not, r_lss, r_leq, r_gtr, r_geq, r_eql, r_neq, r_add, r_sub, r_min2, r_max2, r_min3, r_max3, r_fa, r_iaS, r_iaA, r_ex2a, r_ex2b, r_ex3a, r_ex3b, r_ex3c, r_nc, r_keepE, Nat.zero_add, Nat.add_zero, Nat.mul_one, Int.toNat_natCast, toNat_sub1, toNat_add1, decide_true, decide_false, Bool.not_true, Bool.not_false, if_true, if_false, Bool.false_eq_true, reduceCtorEq, hjl', r_ld hce', r_ld c2, hneg, hC, hj0', hi0']
  exact ⟨⟨j + 1, by omega, by go_num, trivial, fin1 (okAt_iff.2 (by omega))⟩, by simp only [intOf]; omega⟩

end Go.Proofs.Ytaephdjmpmbfpaa

/- Contracts: Empty, Next, Heap of the specification. -/
namespace Go.Proofs.Ytaephdjmpmbfpaa
open Go.Lf Go.RowKit Go.Hp

/-- v reads as h, in memory that is new since w. -/
def NewRows (w w' : World) (v : Value) (h : List (List Int)) : Prop := ∃ g bs, OwnRows w' v g bs h ∧ w.heap.size ≤ g ∧ ∀ i, i < h.length → w.heap.size ≤ bs i

theorem NewRows.rd {w w' : World} {v : Value} {h : List (List Int)} (n : NewRows w w' v h) : RdRows w' v h := let ⟨_, _, o, _⟩ := n; o.rd

theorem owned_outer {w : World} {base n size : Nat} {e : TypeId} {v : Value} {xs : List Value} (h : w.ownsRow base e size v n xs) (h0 : 0 < n) :
    ∃ g cap cur, v = .slice (some ⟨g, 0, none⟩) n cap ∧ base ≤ g ∧ w.heap[g]? = some (.cells cur e (0, 0)) ∧ ∀ i, i < n * size → cur[i]? = xs[i]? := by
  rcases h.2 with ⟨_, rfl⟩ | ⟨g, cap, cur, rfl, hb, hg, hle, _, hs, ht⟩
  · cases h0
  · refine ⟨g, cap, cur, rfl, hb, hg, fun i hi => ?_⟩
    rw [← ht, List.getElem?_take, if_pos hi]
    simp

/-- An outer slice of one's own, whose elements are rows of integers, each in its own block. -/
theorem ownRows_of {w : World} {base : Nat} {v : Value} {h : List (List Int)} {bs cs : Nat → Nat} (ho : w.ownsRow base 36 1 v h.length ((List.range h.length).map fun i => .slice (some ⟨bs i, 0, none⟩) (h.getD i []).length (cs i)))
    (h0 : 0 < h.length) (hr : ∀ i, i < h.length → ∃ cur, w.heap[bs i]? = some (.cells cur 3 (0, 0)) ∧ ∀ j, j < (h.getD i []).length → cur[j]? = some (.int .i64 ((h.getD i []).getD j 0)))
    (hap : ∀ i k, i < h.length → k < h.length → i ≠ k → bs i ≠ bs k) (hs : h.length ≤ 17592186044416 ∧ ∀ i, i < h.length → (h.getD i []).length ≤ 17592186044416) :
    ∃ g, base ≤ g ∧ OwnRows w v g bs h := by
  obtain ⟨g, cap, cur, rfl, hb, hg, hc⟩ := owned_outer ho h0
  refine ⟨g, hb, ⟨cap, cur, rfl, hg, fun i hi => ⟨cs i, ?_⟩⟩, hr, hap, fun i hi e => ?_, hs⟩
  · rw [hc i (by omega)]
    simp [hi]
  · obtain ⟨rc, h1, _⟩ := hr i hi
    rw [e, hg] at h1
    simp at h1

set_option maxRecDepth 100000 in
theorem empty_calls (A B : Nat) (C : Int) (w : World) (hA0 : 0 < A) (hA : A ≤ 1000000) (hB : B ≤ 1000000) :
    Calls Try.prog 66 #[boxV A B C] w fun e w' => ∃ v, e = .returned v ∧ Kp w w' ∧ NewRows w w' v (List.replicate A (List.replicate B 0)) := by
  refine lift66 ?_
  unfold S66
  refine r_box fun b w1 hbw hsz hb hk => ?_
  obtain ⟨c0, c1, c2⟩ := box3 hb
  refine ⟨fun t3 t4 wr => ∃ i : Nat, i ≤ A ∧ t4 = .int .i64 i ∧ Kp w1 wr ∧ ∃ bs : Nat → Nat, wr.ownsRow w1.heap.size 36 1 t3 i ((List.range i).map fun k => .slice (some ⟨bs k, 0, none⟩) B B) ∧
      (∀ k, k < i → wr.heap[bs k]? = some (.cells (Array.replicate B (.int .i64 0)) 3 (0, 0)) ∧ w1.heap.size ≤ bs k) ∧ ∀ k l, k < i → l < i → k ≠ l → bs k ≠ bs l,
    fun _ t4 _ => A - (intOf t4).toNat, ⟨0, by omega, rfl, Kp.refl _, fun _ => 0, World.ownsRow_nil _ _ _ _, by omega, by omega⟩, ?_⟩
  rintro _ t3 _ wr ⟨i, hi, rfl, hk1, bs, hown, hbs, hap⟩
  have d0 := cell_later hk1 c0
  have d1 := cell_later hk1 c1
  by_cases hlt : i < A
  case neg =>
    have hlt' : ¬ (i : Int) < A := by omega
    simp only [r_ln, r_pick, r_pickT, r_pickF, r_condT, r_condF, r_gdTT, r_gdFF, r_gdTF, r_gdFT, r_gqTT, r_gqFF, r_gqTF, r_gqFT, r_not, r_lss, r_leq, r_gtr, r_geq, r_eql, r_neq, r_add, r_sub, r_min2, r_max2, r_min3, r_max3, r_fa, r_iaS, r_iaA, r_ex2a, r_ex2b, r_ex3a, r_ex3b, r_ex3c, r_nc, r_keepE, Nat.zero_add, Nat.add_zero, Nat.mul_one, Int.toNat_natCast, toNat_sub1, toNat_add1, decide_true, decide_false, Bool.not_true, Bool.not_false, if_true, if_false, Bool.false_eq_true, reduceCtorEq, r_ld d0, hlt']
    have hiA : i = A := by omega
    subst hiA
    have e : ∀ k, k < i → (List.replicate i (List.replicate B (0 : Int))).getD k [] = List.replicate B 0 := fun k hk => by simp [hk]
    obtain ⟨g, hg, ho⟩ := ownRows_of (w := wr) (base := w1.heap.size) (v := t3) (h := List.replicate i (List.replicate B 0)) (bs := bs) (cs := fun _ => B)
      (by
        have : ((List.range (List.replicate i (List.replicate B (0 : Int))).length).map fun k => Value.slice (some ⟨bs k, 0, none⟩) ((List.replicate i (List.replicate B (0 : Int))).getD k []).length B) = (List.range i).map fun k => .slice (some ⟨bs k, 0, none⟩) B B := by
          rw [List.length_replicate]
          refine List.map_congr_left fun k hk => ?_
          rw [e k (by simpa using hk), List.length_replicate]
        rw [this, List.length_replicate]
        exact hown) (by simpa using hA0)
      (fun k hk' => by
        rw [List.length_replicate] at hk'
        refine ⟨_, (hbs k hk').1, fun j hj => ?_⟩
        rw [e k hk'] at hj ⊢
        rw [List.length_replicate] at hj
        simp [hj])
      (fun k l hk hl => hap k l (by simpa using hk) (by simpa using hl))
      ⟨by rw [List.length_replicate]; omega, fun k hk' => by rw [e k (by simpa using hk'), List.length_replicate]; omega⟩
    exact ⟨t3, rfl, Kp.trans hk hk1, g, bs, ho, by omega, fun k hk' => by have := (hbs k (by simpa using hk')).2; omega⟩
  have hlt' : (i : Int) < A := by omega
  simp only [r_ln, r_pick, r_pickT, r_pickF, r_condT, r_condF, r_gdTT, r_gdFF, r_gdTF, r_gdFT, r_gqTT, r_gqFF, r_gqTF, r_gqFT, r_not, r_lss, r_leq, r_gtr, r_geq, r_eql, r_neq, r_add, r_sub, r_min2, r_max2, r_min3, r_max3, r_fa, r_iaS, r_iaA, r_ex2a, r_ex2b, r_ex3a, r_ex3b, r_ex3c, r_nc, r_keepE, Nat.zero_add, Nat.add_zero, Nat.mul_one, Int.toNat_natCast, toNat_sub1, toNat_add1, decide_true, decide_false, Bool.not_true, Bool.not_false, if_true, if_false, Bool.false_eq_true, reduceCtorEq, r_ld d0, r_ld d1, hlt']
  refine mk36 (by omega) ?_
  have hk2 : Kp wr (wr.alloc (.cells (Array.replicate B (.int .i64 0)) 3)) := below_alloc _
  have hsz2 : (wr.alloc (.cells (Array.replicate B (.int .i64 0)) 3)).heap.size = wr.heap.size + 1 := by show (wr.heap.push _).size = _; simp
  have hnb := heap_alloc_new wr (.cells (Array.replicate B (.int .i64 0)) 3)
  generalize wr.alloc (.cells (Array.replicate B (.int .i64 0)) 3) = w2 at *
  have hown2 := owns_kp hown hk2
  have hle := hk1.size
  refine r_push slt26 (bs26 _ _ _ _) rfl (by intro u hu; simp [Value.cells] at hu; subst hu; rfl) hown2 (by omega) (by omega) (by omega) fun v' w3 ho3 hg3 => ?_
  simp (disch := omega) only [r_ln, r_pick, r_pickT, r_pickF, r_condT, r_condF, r_gdTT, r_gdFF, r_gdTF, r_gdFT, r_gqTT, r_gqFF, r_gqTF, r_gqFT, r_not, r_lss, r_leq, r_gtr, r_geq, r_eql, r_neq, r_add, r_sub, r_min2, r_max2, r_min3, r_max3, r_fa, r_iaS, r_iaA, r_ex2a, r_ex2b, r_ex3a, r_ex3b, r_ex3c, r_nc, r_keepE, Nat.zero_add, Nat.add_zero, Nat.mul_one, Int.toNat_natCast, toNat_sub1, toNat_add1, decide_true, decide_false, Bool.not_true, Bool.not_false, if_true, if_false, Bool.false_eq_true, reduceCtorEq]
  have hold : ∀ k (o : Array Value), w2.heap[k]? = some (Obj.cells o 3 (0, 0)) → w3.heap[k]? = some (Obj.cells o 3 (0, 0)) := fun k o hko => by
    rw [hg3.block k (block_lt hko) fun e => ?_]
    · exact hko
    · rcases hown2.2 with ⟨rfl, _⟩ | ⟨g, cap, cur, rfl, _, hgg, _⟩
      · simp [Value.ownBlock] at e
      · simp [Value.ownBlock] at e
        subst e
        rw [hgg] at hko
        simp at hko
  have hk3 : Kp w1 w3 := by
    refine Below.grown (Kp.trans hk1 hk2) hg3 (by omega) fun k hk' => ?_
    exact (hown.lt k hk').1
  refine ⟨⟨i + 1, by omega, by go_num, hk3, fun k => if k < i then bs k else wr.heap.size, ?_, fun k hk' => ?_, fun k l hk' hl hne => ?_⟩, by simp only [intOf]; omega⟩
  · rw [List.range_succ, List.map_append]
    have e1 : ((List.range i).map fun k => Value.slice (some ⟨if k < i then bs k else wr.heap.size, 0, none⟩) B B) = (List.range i).map fun k => .slice (some ⟨bs k, 0, none⟩) B B :=
      List.map_congr_left fun k hk' => by rw [if_pos (by simpa using hk')]
    rw [e1]
    simpa [Value.cells] using ho3
  · dsimp only
    by_cases hki : k < i
    · rw [if_pos hki]
      exact ⟨hold _ _ (block_below (hbs k hki).1 hk2), (hbs k hki).2⟩
    · rw [if_neg hki]
      exact ⟨hold _ _ hnb, by omega⟩
  · dsimp only
    by_cases hki : k < i <;> by_cases hli : l < i
    · rw [if_pos hki, if_pos hli]; exact hap k l hki hli hne
    · rw [if_pos hki, if_neg hli]; have := block_lt (hbs k hki).1; omega
    · rw [if_neg hki, if_pos hli]; have := block_lt (hbs l hli).1; omega
    · omega

end Go.Proofs.Ytaephdjmpmbfpaa
