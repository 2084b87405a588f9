/- Contracts: In, is, checked. -/
import Derived.Test.YtaephdjmpmbfpaaC1
set_option linter.all false
namespace Go.Proofs.Ytaephdjmpmbfpaa
open Go.Lf Go.RowKit Go.Hp

theorem fok48' : fnOk Try.prog 48 = true := fok48

theorem in_calls (A B C : Int) (v : Value) (h : List (List Int)) (w : World) (hr : RdRows w v h) :
    Calls Try.prog 15 #[boxV A B C, v] w fun e w' => e = .returned (.bool (heapOk A B C h)) ∧ Kp w w' := by
  obtain ⟨a, cap, hv, hl⟩ := hr.len
  subst hv
  refine lift15 ?_
  unfold S15
  refine r_box fun b w1 _ _ hb hk => ?_
  obtain ⟨c0, c1, c2⟩ := box3 hb
  by_cases hA : (h.length : Int) = A
  case neg =>
    simp only [r_ln, r_pick, r_pickT, r_pickF, r_condT, r_condF, r_gdTT, r_gdFF, r_gdTF, r_gdFT, r_gqTT, r_gqFF, r_gqTF, r_gqFT, r_not, r_lss, r_leq, r_gtr, r_geq, r_eql, r_neq, r_add, r_sub, r_min2, r_max2, r_min3, r_max3, r_fa, r_iaS, r_iaA, r_ex2a, r_ex2b, r_ex3a, r_ex3b, r_ex3c, r_nc, r_keepE, Nat.zero_add, Nat.add_zero, Nat.mul_one, Int.toNat_natCast, toNat_sub1, toNat_add1, decide_true, decide_false, Bool.not_true, Bool.not_false, if_true, if_false, Bool.false_eq_true, reduceCtorEq, r_ld c0, hA]
    exact ⟨ret_bool (heapOk_len hA).symm, hk⟩
  simp only [r_ln, r_pick, r_pickT, r_pickF, r_condT, r_condF, r_gdTT, r_gdFF, r_gdTF, r_gdFT, r_gqTT, r_gqFF, r_gqTF, r_gqFT, r_not, r_lss, r_leq, r_gtr, r_geq, r_eql, r_neq, r_add, r_sub, r_min2, r_max2, r_min3, r_max3, r_fa, r_iaS, r_iaA, r_ex2a, r_ex2b, r_ex3a, r_ex3b, r_ex3c, r_nc, r_keepE, Nat.zero_add, Nat.add_zero, Nat.mul_one, Int.toNat_natCast, toNat_sub1, toNat_add1, decide_true, decide_false, Bool.not_true, Bool.not_false, if_true, if_false, Bool.false_eq_true, reduceCtorEq, r_ld c0, hA]
  refine ⟨fun t5 wr => ∃ i : Nat, i ≤ h.length ∧ t5 = .int .i64 i ∧ Kp w1 wr ∧ ∀ i', i' < i → rowOk B C h i' = true, fun t5 _ => h.length - (intOf t5).toNat, ⟨0, by omega, rfl, Kp.refl _, by omega⟩, ?_⟩
  rintro _ _ wr ⟨i, hi, rfl, hk1, hprev⟩
  have hkr := Kp.trans hk hk1
  have d0 := cell_later hk1 c0
  have d1 := cell_later hk1 c1
  by_cases hlt : i < h.length
  case neg =>
    have hlt' : ¬ (i : Int) < A := by omega
    simp only [r_ln, r_pick, r_pickT, r_pickF, r_condT, r_condF, r_gdTT, r_gdFF, r_gdTF, r_gdFT, r_gqTT, r_gqFF, r_gqTF, r_gqFT, r_not, r_lss, r_leq, r_gtr, r_geq, r_eql, r_neq, r_add, r_sub, r_min2, r_max2, r_min3, r_max3, r_fa, r_iaS, r_iaA, r_ex2a, r_ex2b, r_ex3a, r_ex3b, r_ex3c, r_nc, r_keepE, Nat.zero_add, Nat.add_zero, Nat.mul_one, Int.toNat_natCast, toNat_sub1, toNat_add1, decide_true, decide_false, Bool.not_true, Bool.not_false, if_true, if_false, Bool.false_eq_true, reduceCtorEq, r_ld d0, hlt']
    exact ⟨ret_bool (heapOk_true hA fun i' hi' => hprev i' (by omega)).symm, hkr⟩
  have hlt' : (i : Int) < A := by omega
  obtain ⟨b1, o1, cap1, rv, he, hc, hrow⟩ := hr.row hlt
  cases he
  obtain ⟨ra, rcap, hrv, hrl⟩ := hrow.len
  subst hrv
  simp only [r_ln, r_pick, r_pickT, r_pickF, r_condT, r_condF, r_gdTT, r_gdFF, r_gdTF, r_gdFT, r_gqTT, r_gqFF, r_gqTF, r_gqFT, r_not, r_lss, r_leq, r_gtr, r_geq, r_eql, r_neq, r_add, r_sub, r_min2, r_max2, r_min3, r_max3, r_fa, r_iaS, r_iaA, r_ex2a, r_ex2b, r_ex3a, r_ex3b, r_ex3c, r_nc, r_keepE, Nat.zero_add, Nat.add_zero, Nat.mul_one, Int.toNat_natCast, toNat_sub1, toNat_add1, decide_true, decide_false, Bool.not_true, Bool.not_false, if_true, if_false, Bool.false_eq_true, reduceCtorEq, r_ld d0, hlt']
  refine r_drew fun w2 hk2 _ => ?_
  have hk2' := Kp.trans hkr hk2
  have hc2 := cell_later hk2' hc
  have f1 := cell_later hk2 d1
  by_cases hB : ((h.getD i []).length : Int) = B
  case neg =>
    simp (disch := omega) only [r_ln, r_pick, r_pickT, r_pickF, r_condT, r_condF, r_gdTT, r_gdFF, r_gdTF, r_gdFT, r_gqTT, r_gqFF, r_gqTF, r_gqFT, r_not, r_lss, r_leq, r_gtr, r_geq, r_eql, r_neq, r_add, r_sub, r_min2, r_max2, r_min3, r_max3, r_fa, r_iaS, r_iaA, r_ex2a, r_ex2b, r_ex3a, r_ex3b, r_ex3c, r_nc, r_keepE, Nat.zero_add, Nat.add_zero, Nat.mul_one, Int.toNat_natCast, toNat_sub1, toNat_add1, decide_true, decide_false, Bool.not_true, Bool.not_false, if_true, if_false, Bool.false_eq_true, reduceCtorEq, r_ld hc2, r_ld f1, hB]
    exact ⟨ret_bool (heapOk_row hlt (rowOk_len0 hB)).symm, hk2'⟩
  simp (disch := omega) only [r_ln, r_pick, r_pickT, r_pickF, r_condT, r_condF, r_gdTT, r_gdFF, r_gdTF, r_gdFT, r_gqTT, r_gqFF, r_gqTF, r_gqFT, r_not, r_lss, r_leq, r_gtr, r_geq, r_eql, r_neq, r_add, r_sub, r_min2, r_max2, r_min3, r_max3, r_fa, r_iaS, r_iaA, r_ex2a, r_ex2b, r_ex3a, r_ex3b, r_ex3c, r_nc, r_keepE, Nat.zero_add, Nat.add_zero, Nat.mul_one, Int.toNat_natCast, toNat_sub1, toNat_add1, decide_true, decide_false, Bool.not_true, Bool.not_false, if_true, if_false, Bool.false_eq_true, reduceCtorEq, r_ld hc2, r_ld f1, hB]
  refine ⟨fun t6 wr => ∃ j : Nat, j ≤ (h.getD i []).length ∧ t6 = .int .i64 j ∧ Kp w1 wr ∧ ∀ j', j' < j → okAt C h i j' = true, fun t6 _ => (h.getD i []).length - (intOf t6).toNat, ⟨0, by omega, rfl, Kp.trans hk1 hk2, by omega⟩, ?_⟩
  rintro _ _ wr3 ⟨j, hj, rfl, hk3, hok⟩
  have hk3' := Kp.trans hk hk3
  have g1 := cell_later hk3 c1
  by_cases hjl : j < (h.getD i []).length
  case neg =>
    have hjl' : ¬ (j : Int) < B := by omega
    simp (disch := omega) only [r_ln, r_pick, r_pickT, r_pickF, r_condT, r_condF, r_gdTT, r_gdFF, r_gdTF, r_gdFT, r_gqTT, r_gqFF, r_gqTF, r_gqFT, r_not, r_lss, r_leq, r_gtr, r_geq, r_eql, r_neq, r_add, r_sub, r_min2, r_max2, r_min3, r_max3, r_fa, r_iaS, r_iaA, r_ex2a, r_ex2b, r_ex3a, r_ex3b, r_ex3c, r_nc, r_keepE, Nat.zero_add, Nat.add_zero, Nat.mul_one, Int.toNat_natCast, toNat_sub1, toNat_add1, decide_true, decide_false, Bool.not_true, Bool.not_false, if_true, if_false, Bool.false_eq_true, reduceCtorEq, r_ld g1, hjl']
    exact ⟨⟨i + 1, by omega, by go_num, hk3, fun i' hi' => if e : i' < i then hprev i' e else (show i' = i by omega) ▸ rowOk_true hB fun j' hj' => hok j' (by omega)⟩, by simp only [intOf]; omega⟩
  have hjl' : (j : Int) < B := by omega
  simp (disch := omega) only [r_ln, r_pick, r_pickT, r_pickF, r_condT, r_condF, r_gdTT, r_gdFF, r_gdTF, r_gdFT, r_gqTT, r_gqFF, r_gqTF, r_gqFT, r_not, r_lss, r_leq, r_gtr, r_geq, r_eql, r_neq, r_add, r_sub, r_min2, r_max2, r_min3, r_max3, r_fa, r_iaS, r_iaA, r_ex2a, r_ex2b, r_ex3a, r_ex3b, r_ex3c, r_nc, r_keepE, Nat.zero_add, Nat.add_zero, Nat.mul_one, Int.toNat_natCast, toNat_sub1, toNat_add1, decide_true, decide_false, Bool.not_true, Bool.not_false, if_true, if_false, Bool.false_eq_true, reduceCtorEq, r_ld g1, hjl']
  refine r_drew fun w4 hk4 _ => ?_
  have hk4' := Kp.trans hk3' hk4
  have hc4 := cell_later hk4' hc
  have hb4 := block_below hb (Kp.trans hk3 hk4)
  obtain ⟨rb, ro, _, he, hce⟩ := hrow.at hjl
  cases he
  have hce4 := cell_later hk4' hce
  have hx : hat h i j = (h.getD i []).getD j 0 := rfl
  by_cases hneg : (h.getD i []).getD j 0 < 0
  case pos =>
    simp (disch := omega) only [r_ln, r_pick, r_pickT, r_pickF, r_condT, r_condF, r_gdTT, r_gdFF, r_gdTF, r_gdFT, r_gqTT, r_gqFF, r_gqTF, r_gqFT, r_not, r_lss, r_leq, r_gtr, r_geq, r_eql, r_neq, r_add, r_sub, r_min2, r_max2, r_min3, r_max3, r_fa, r_iaS, r_iaA, r_ex2a, r_ex2b, r_ex3a, r_ex3b, r_ex3c, r_nc, r_keepE, Nat.zero_add, Nat.add_zero, Nat.mul_one, Int.toNat_natCast, toNat_sub1, toNat_add1, decide_true, decide_false, Bool.not_true, Bool.not_false, if_true, if_false, Bool.false_eq_true, reduceCtorEq, r_ld hc4, r_ld hce4, hneg]
    exact ⟨Below.refl _ _, ret_bool (heapOk_row hlt (rowOk_at hjl (by simp only [okAt]; exact decide_eq_false (by omega)))).symm, hk4'⟩
  simp (disch := omega) only [r_ln, r_pick, r_pickT, r_pickF, r_condT, r_condF, r_gdTT, r_gdFF, r_gdTF, r_gdFT, r_gqTT, r_gqFF, r_gqTF, r_gqFT, r_not, r_lss, r_leq, r_gtr, r_geq, r_eql, r_neq, r_add, r_sub, r_min2, r_max2, r_min3, r_max3, r_fa, r_iaS, r_iaA, r_ex2a, r_ex2b, r_ex3a, r_ex3b, r_ex3c, r_nc, r_keepE, Nat.zero_add, Nat.add_zero, Nat.mul_one, Int.toNat_natCast, toNat_sub1, toNat_add1, decide_true, decide_false, Bool.not_true, Bool.not_false, if_true, if_false, Bool.false_eq_true, reduceCtorEq, r_ld hc4, r_ld hce4, hneg, r_ldRow (n := 3) hb4 rfl]
  refine r_use fok48 (most_calls A B C _ h i j w4 (hr.below hk4') hlt hjl fun h0 => by have := rowOk_len (hprev (i - 1) (by omega)); omega) rfl ?_
  rintro e w5 ⟨rfl, hk5⟩
  refine ⟨_, rfl, hk5, ?_⟩
  have hk5' := Kp.trans hk4' hk5
  by_cases hm : mostM C h i j < (h.getD i []).getD j 0
  · simp (disch := omega) only [r_ln, r_pick, r_pickT, r_pickF, r_condT, r_condF, r_gdTT, r_gdFF, r_gdTF, r_gdFT, r_gqTT, r_gqFF, r_gqTF, r_gqFT, r_not, r_lss, r_leq, r_gtr, r_geq, r_eql, r_neq, r_add, r_sub, r_min2, r_max2, r_min3, r_max3, r_fa, r_iaS, r_iaA, r_ex2a, r_ex2b, r_ex3a, r_ex3b, r_ex3c, r_nc, r_keepE, Nat.zero_add, Nat.add_zero, Nat.mul_one, Int.toNat_natCast, toNat_sub1, toNat_add1, decide_true, decide_false, Bool.not_true, Bool.not_false, if_true, if_false, Bool.false_eq_true, reduceCtorEq, hm]
    exact ⟨ret_bool (heapOk_row hlt (rowOk_at hjl (by simp only [okAt]; exact decide_eq_false (by omega)))).symm, hk5'⟩
  · simp (disch := omega) only [r_ln, r_pick, r_pickT, r_pickF, r_condT, r_condF, r_gdTT, r_gdFF, r_gdTF, r_gdFT, r_gqTT, r_gqFF, r_gqTF, r_gqFT, r_not, r_lss, r_leq, r_gtr, r_geq, r_eql, r_neq, r_add, r_sub, r_min2, r_max2, r_min3, r_max3, r_fa, r_iaS, r_iaA, r_ex2a, r_ex2b, r_ex3a, r_ex3b, r_ex3c, r_nc, r_keepE, Nat.zero_add, Nat.add_zero, Nat.mul_one, Int.toNat_natCast, toNat_sub1, toNat_add1, decide_true, decide_false, Bool.not_true, Bool.not_false, if_true, if_false, Bool.false_eq_true, reduceCtorEq, hm]
    have hokj : okAt C h i j = true := decide_eq_true (by omega)
    exact ⟨⟨j + 1, by omega, by go_num, Kp.trans (Kp.trans hk3 hk4) hk5, fun j' hj' => if e : j' < j then hok j' e else (show j' = j by omega) ▸ hokj⟩, by simp only [intOf]; omega⟩

theorem is_calls (A B C : Int) (v : Value) (h : List (List Int)) (w : World) (hr : RdRows w v h) :
    Calls Try.prog 67 #[boxV A B C, v] w fun e w' => e = .returned (.bool (heapOk A B C h)) ∧ Kp w w' := by
  obtain ⟨a, cap, hv, hl⟩ := hr.len
  subst hv
  refine lift67 ?_
  unfold S67
  refine r_box fun b w1 _ _ hb hk => ?_
  obtain ⟨c0, c1, c2⟩ := box3 hb
  by_cases hA : (h.length : Int) = A
  case neg =>
    simp only [r_ln, r_pick, r_pickT, r_pickF, r_condT, r_condF, r_gdTT, r_gdFF, r_gdTF, r_gdFT, r_gqTT, r_gqFF, r_gqTF, r_gqFT, r_not, r_lss, r_leq, r_gtr, r_geq, r_eql, r_neq, r_add, r_sub, r_min2, r_max2, r_min3, r_max3, r_fa, r_iaS, r_iaA, r_ex2a, r_ex2b, r_ex3a, r_ex3b, r_ex3c, r_nc, r_keepE, Nat.zero_add, Nat.add_zero, Nat.mul_one, Int.toNat_natCast, toNat_sub1, toNat_add1, decide_true, decide_false, Bool.not_true, Bool.not_false, if_true, if_false, Bool.false_eq_true, reduceCtorEq, r_ld c0, hA]
    exact ⟨ret_bool (heapOk_len hA).symm, hk⟩
  simp only [r_ln, r_pick, r_pickT, r_pickF, r_condT, r_condF, r_gdTT, r_gdFF, r_gdTF, r_gdFT, r_gqTT, r_gqFF, r_gqTF, r_gqFT, r_not, r_lss, r_leq, r_gtr, r_geq, r_eql, r_neq, r_add, r_sub, r_min2, r_max2, r_min3, r_max3, r_fa, r_iaS, r_iaA, r_ex2a, r_ex2b, r_ex3a, r_ex3b, r_ex3c, r_nc, r_keepE, Nat.zero_add, Nat.add_zero, Nat.mul_one, Int.toNat_natCast, toNat_sub1, toNat_add1, decide_true, decide_false, Bool.not_true, Bool.not_false, if_true, if_false, Bool.false_eq_true, reduceCtorEq, r_ld c0, hA]
  refine ⟨fun t5 wr => ∃ i : Nat, i ≤ h.length ∧ t5 = .int .i64 i ∧ w1 = wr ∧ ∀ i', i' < i → rowOk B C h i' = true, fun t5 _ => h.length - (intOf t5).toNat, ⟨0, by omega, rfl, rfl, by omega⟩, ?_⟩
  rintro _ _ _ ⟨i, hi, rfl, rfl, hprev⟩
  by_cases hlt : i < h.length
  case neg =>
    have hlt' : ¬ (i : Int) < A := by omega
    simp only [r_ln, r_pick, r_pickT, r_pickF, r_condT, r_condF, r_gdTT, r_gdFF, r_gdTF, r_gdFT, r_gqTT, r_gqFF, r_gqTF, r_gqFT, r_not, r_lss, r_leq, r_gtr, r_geq, r_eql, r_neq, r_add, r_sub, r_min2, r_max2, r_min3, r_max3, r_fa, r_iaS, r_iaA, r_ex2a, r_ex2b, r_ex3a, r_ex3b, r_ex3c, r_nc, r_keepE, Nat.zero_add, Nat.add_zero, Nat.mul_one, Int.toNat_natCast, toNat_sub1, toNat_add1, decide_true, decide_false, Bool.not_true, Bool.not_false, if_true, if_false, Bool.false_eq_true, reduceCtorEq, hlt']
    exact ⟨ret_bool (heapOk_true hA fun i' hi' => hprev i' (by omega)).symm, hk⟩
  have hlt' : (i : Int) < A := by omega
  obtain ⟨b1, o1, cap1, rv, he, hc, hrow⟩ := hr.row hlt
  cases he
  obtain ⟨ra, rcap, hrv, hrl⟩ := hrow.len
  subst hrv
  have hc2 := cell_later hk hc
  by_cases hB : ((h.getD i []).length : Int) = B
  case neg =>
    simp (disch := omega) only [r_ln, r_pick, r_pickT, r_pickF, r_condT, r_condF, r_gdTT, r_gdFF, r_gdTF, r_gdFT, r_gqTT, r_gqFF, r_gqTF, r_gqFT, r_not, r_lss, r_leq, r_gtr, r_geq, r_eql, r_neq, r_add, r_sub, r_min2, r_max2, r_min3, r_max3, r_fa, r_iaS, r_iaA, r_ex2a, r_ex2b, r_ex3a, r_ex3b, r_ex3c, r_nc, r_keepE, Nat.zero_add, Nat.add_zero, Nat.mul_one, Int.toNat_natCast, toNat_sub1, toNat_add1, decide_true, decide_false, Bool.not_true, Bool.not_false, if_true, if_false, Bool.false_eq_true, reduceCtorEq, r_ld hc2, r_ld c1, hB, hlt']
    exact ⟨ret_bool (heapOk_row hlt (rowOk_len0 hB)).symm, hk⟩
  simp (disch := omega) only [r_ln, r_pick, r_pickT, r_pickF, r_condT, r_condF, r_gdTT, r_gdFF, r_gdTF, r_gdFT, r_gqTT, r_gqFF, r_gqTF, r_gqFT, r_not, r_lss, r_leq, r_gtr, r_geq, r_eql, r_neq, r_add, r_sub, r_min2, r_max2, r_min3, r_max3, r_fa, r_iaS, r_iaA, r_ex2a, r_ex2b, r_ex3a, r_ex3b, r_ex3c, r_nc, r_keepE, Nat.zero_add, Nat.add_zero, Nat.mul_one, Int.toNat_natCast, toNat_sub1, toNat_add1, decide_true, decide_false, Bool.not_true, Bool.not_false, if_true, if_false, Bool.false_eq_true, reduceCtorEq, r_ld hc2, r_ld c1, hB, hlt']
  refine ⟨fun t6 w' => ∃ j : Nat, j ≤ (h.getD i []).length ∧ t6 = .int .i64 j ∧ w1 = w' ∧ ∀ j', j' < j → okAt C h i j' = true, fun t6 _ => (h.getD i []).length - (intOf t6).toNat, ⟨0, by omega, rfl, rfl, by omega⟩, ?_⟩
  rintro _ _ _ ⟨j, hj, rfl, rfl, hok⟩
  by_cases hjl : j < (h.getD i []).length
  case neg =>
    have hjl' : ¬ (j : Int) < B := by omega
    simp (disch := omega) only [r_ln, r_pick, r_pickT, r_pickF, r_condT, r_condF, r_gdTT, r_gdFF, r_gdTF, r_gdFT, r_gqTT, r_gqFF, r_gqTF, r_gqFT, r_not, r_lss, r_leq, r_gtr, r_geq, r_eql, r_neq, r_add, r_sub, r_min2, r_max2, r_min3, r_max3, r_fa, r_iaS, r_iaA, r_ex2a, r_ex2b, r_ex3a, r_ex3b, r_ex3c, r_nc, r_keepE, Nat.zero_add, Nat.add_zero, Nat.mul_one, Int.toNat_natCast, toNat_sub1, toNat_add1, decide_true, decide_false, Bool.not_true, Bool.not_false, if_true, if_false, Bool.false_eq_true, reduceCtorEq, hjl']
    exact ⟨⟨i + 1, by omega, by go_num, trivial, fun i' hi' => if e : i' < i then hprev i' e else (show i' = i by omega) ▸ rowOk_true hB fun j' hj' => hok j' (by omega)⟩, by simp only [intOf]; omega⟩
  have hjl' : (j : Int) < B := by omega
  obtain ⟨rb, ro, _, he, hce⟩ := hrow.at hjl
  cases he
  have hce' := cell_later hk hce
  have hx : hat h i j = (h.getD i []).getD j 0 := rfl
  have fin0 : okAt C h i j = false → heapOk A B C h = false := fun e => heapOk_row hlt (rowOk_at hjl e)
  have fin1 : okAt C h i j = true → ∀ j', j' < j + 1 → okAt C h i j' = true := fun e1 j' hj' => if e : j' < j then hok j' e else (show j' = j by omega) ▸ e1
  have bad : ¬ (0 ≤ hat h i j ∧ hat h i j ≤ C ∧ (0 < j → hat h i j ≤ hat h i (j - 1)) ∧ (0 < i → hat h i j ≤ hat h (i - 1) j)) → heapOk A B C h = false := fun e => fin0 (by
    cases ho : okAt C h i j with
    | false => rfl
    | true => exact absurd (okAt_iff.1 ho) e)
  by_cases hneg : (h.getD i []).getD j 0 < 0
  case pos =>
    simp (disch := omega) only [r_ln, r_pick, r_pickT, r_pickF, r_condT, r_condF, r_gdTT, r_gdFF, r_gdTF, r_gdFT, r_gqTT, r_gqFF, r_gqTF, r_gqFT, r_not, r_lss, r_leq, r_gtr, r_geq, r_eql, r_neq, r_add, r_sub, r_min2, r_max2, r_min3, r_max3, r_fa, r_iaS, r_iaA, r_ex2a, r_ex2b, r_ex3a, r_ex3b, r_ex3c, r_nc, r_keepE, Nat.zero_add, Nat.add_zero, Nat.mul_one, Int.toNat_natCast, toNat_sub1, toNat_add1, decide_true, decide_false, Bool.not_true, Bool.not_false, if_true, if_false, Bool.false_eq_true, reduceCtorEq, hjl', r_ld hce', hneg]
    exact ⟨ret_bool (bad (by omega)).symm, hk⟩
  by_cases hC : C < (h.getD i []).getD j 0
  case pos =>
    simp (disch := omega) only [r_ln, r_pick, r_pickT, r_pickF, r_condT, r_condF, r_gdTT, r_gdFF, r_gdTF, r_gdFT, r_gqTT, r_gqFF, r_gqTF, r_gqFT, r_not, r_lss, r_leq, r_gtr, r_geq, r_eql, r_neq, r_add, r_sub, r_min2, r_max2, r_min3, r_max3, r_fa, r_iaS, r_iaA, r_ex2a, r_ex2b, r_ex3a, r_ex3b, r_ex3c, r_nc, r_keepE, Nat.zero_add, Nat.add_zero, Nat.mul_one, Int.toNat_natCast, toNat_sub1, toNat_add1, decide_true, decide_false, Bool.not_true, Bool.not_false, if_true, if_false, Bool.false_eq_true, reduceCtorEq, hjl', r_ld hce', r_ld c2, hneg, hC]
    exact ⟨ret_bool (bad (by omega)).symm, hk⟩
  -- the row above
  have up : 0 < i → ∃ rv2 b2 o2 cap2, rv2 = .slice (some ⟨b2, o2, none⟩) (h.getD (i - 1) []).length cap2 ∧ w1.cell? ⟨b1, o1 + (i - 1), none⟩ = some rv2 ∧ j < (h.getD (i - 1) []).length ∧
      w1.cell? ⟨b2, o2 + j, none⟩ = some (.int .i64 (hat h (i - 1) j)) := fun h0 => by
    obtain ⟨_, _, _, rv2, he, hc2, hrow2⟩ := hr.row (i := i - 1) (by omega)
    cases he
    have hlen := rowOk_len (hprev (i - 1) (by omega))
    obtain ⟨b2, o2, cap2, e2, hc3⟩ := hrow2.at (j := j) (by omega)
    exact ⟨rv2, b2, o2, cap2, e2, cell_later hk hc2, by omega, cell_later hk hc3⟩
  by_cases hj0 : 0 < j
  case pos =>
    have hj0' : (0 : Int) < j := by omega
    obtain ⟨_, _, _, he, hcl⟩ := hrow.at (j := j - 1) (by omega)
    cases he
    have hcl' := cell_later hk hcl
    have hy : hat h i (j - 1) = (h.getD i []).getD (j - 1) 0 := rfl
    by_cases hl1 : (h.getD i []).getD (j - 1) 0 < (h.getD i []).getD j 0
    case pos =>
      simp (disch := omega) only [r_ln, r_pick, r_pickT, r_pickF, r_condT, r_condF, r_gdTT, r_gdFF, r_gdTF, r_gdFT, r_gqTT, r_gqFF, r_gqTF, r_gqFT, r_not, r_lss, r_leq, r_gtr, r_geq, r_eql, r_neq, r_add, r_sub, r_min2, r_max2, r_min3, r_max3, r_fa, r_iaS, r_iaA, r_ex2a, r_ex2b, r_ex3a, r_ex3b, r_ex3c, r_nc, r_keepE, Nat.zero_add, Nat.add_zero, Nat.mul_one, Int.toNat_natCast, toNat_sub1, toNat_add1, decide_true, decide_false, Bool.not_true, Bool.not_false, if_true, if_false, Bool.false_eq_true, reduceCtorEq, hjl', r_ld hce', r_ld c2, hneg, hC, hj0', r_ld hcl', hl1]
      exact ⟨ret_bool (bad (by omega)).symm, hk⟩
    by_cases hi0 : 0 < i
    case pos =>
      have hi0' : (0 : Int) < i := by omega
      obtain ⟨rv2, b2, o2, cap2, rfl, hcu, hju, hcv⟩ := up hi0
      by_cases hl2 : hat h (i - 1) j < (h.getD i []).getD j 0
      case pos =>
        simp (disch := omega) only [r_ln, r_pick, r_pickT, r_pickF, r_condT, r_condF, r_gdTT, r_gdFF, r_gdTF, r_gdFT, r_gqTT, r_gqFF, r_gqTF, r_gqFT, r_not, r_lss, r_leq, r_gtr, r_geq, r_eql, r_neq, r_add, r_sub, r_min2, r_max2, r_min3, r_max3, r_fa, r_iaS, r_iaA, r_ex2a, r_ex2b, r_ex3a, r_ex3b, r_ex3c, r_nc, r_keepE, Nat.zero_add, Nat.add_zero, Nat.mul_one, Int.toNat_natCast, toNat_sub1, toNat_add1, decide_true, decide_false, Bool.not_true, Bool.not_false, if_true, if_false, Bool.false_eq_true, reduceCtorEq, hjl', r_ld hce', r_ld c2, hneg, hC, hj0', r_ld hcl', hl1, hi0', r_ld hcu, r_ld hcv, hl2]
        exact ⟨ret_bool (bad (by omega)).symm, hk⟩
      simp (disch := omega) only [r_ln, r_pick, r_pickT, r_pickF, r_condT, r_condF, r_gdTT, r_gdFF, r_gdTF, r_gdFT, r_gqTT, r_gqFF, r_gqTF, r_gqFT, r_not, r_lss, r_leq, r_gtr, r_geq, r_eql, r_neq, r_add, r_sub, r_min2, r_max2, r_min3, r_max3, r_fa, r_iaS, r_iaA, r_ex2a, r_ex2b, r_ex3a, r_ex3b, r_ex3c, r_nc, r_keepE, Nat.zero_add, Nat.add_zero, Nat.mul_one, Int.toNat_natCast, toNat_sub1, toNat_add1, decide_true, decide_false, Bool.not_true, Bool.not_false, if_true, if_false, Bool.false_eq_true, reduceCtorEq, hjl', r_ld hce', r_ld c2, hneg, hC, hj0', r_ld hcl', hl1, hi0', r_ld hcu, r_ld hcv, hl2]
      exact ⟨⟨j + 1, by omega, by go_num, trivial, fin1 (okAt_iff.2 (by omega))⟩, by simp only [intOf]; omega⟩
    have hi0' : ¬ (0 : Int) < i := by omega
    simp (disch := omega) only [r_ln, r_pick, r_pickT, r_pickF, r_condT, r_condF, r_gdTT, r_gdFF, r_gdTF, r_gdFT, r_gqTT, r_gqFF, r_gqTF, r_gqFT, r_not, r_lss, r_leq, r_gtr, r_geq, r_eql, r_neq, r_add, r_sub, r_min2, r_max2, r_min3, r_max3, r_fa, r_iaS, r_iaA, r_ex2a, r_ex2b, r_ex3a, r_ex3b, r_ex3c, r_nc, r_keepE, Nat.zero_add, Nat.add_zero, Nat.mul_one, Int.toNat_natCast, toNat_sub1, toNat_add1, decide_true, decide_false, Bool.not_true, Bool.not_false, if_true, if_false, Bool.false_eq_true, reduceCtorEq, hjl', r_ld hce', r_ld c2, hneg, hC, hj0', r_ld hcl', hl1, hi0']
    exact ⟨⟨j + 1, by omega, by go_num, trivial, fin1 (okAt_iff.2 (by omega))⟩, by simp only [intOf]; omega⟩
  have hj0' : ¬ (0 : Int) < j := by omega
  by_cases hi0 : 0 < i
  case pos =>
    have hi0' : (0 : Int) < i := by omega
    obtain ⟨rv2, b2, o2, cap2, rfl, hcu, hju, hcv⟩ := up hi0
    by_cases hl2 : hat h (i - 1) j < (h.getD i []).getD j 0
    case pos =>
      simp (disch := omega) only [r_ln, r_pick, r_pickT, r_pickF, r_condT, r_condF, r_gdTT, r_gdFF, r_gdTF, r_gdFT, r_gqTT, r_gqFF, r_gqTF, r_gqFT, r_not, r_lss, r_leq, r_gtr, r_geq, r_eql, r_neq, r_add, r_sub, r_min2, r_max2, r_min3, r_max3, r_fa, r_iaS, r_iaA, r_ex2a, r_ex2b, r_ex3a, r_ex3b, r_ex3c, r_nc, r_keepE, Nat.zero_add, Nat.add_zero, Nat.mul_one, Int.toNat_natCast, toNat_sub1, toNat_add1, decide_true, decide_false, Bool.not_true, Bool.not_false, if_true, if_false, Bool.false_eq_true, reduceCtorEq, hjl', r_ld hce', r_ld c2, hneg, hC, hj0', hi0', r_ld hcu, r_ld hcv, hl2]
      exact ⟨ret_bool (bad (by omega)).symm, hk⟩
    simp (disch := omega) only [r_ln, r_pick, r_pickT, r_pickF, r_condT, r_condF, r_gdTT, r_gdFF, r_gdTF, r_gdFT, r_gqTT, r_gqFF, r_gqTF, r_gqFT, r_not, r_lss, r_leq, r_gtr, r_geq, r_eql, r_neq, r_add, r_sub, r_min2, r_max2, r_min3, r_max3, r_fa, r_iaS, r_iaA, r_ex2a, r_ex2b, r_ex3a, r_ex3b, r_ex3c, r_nc, r_keepE, Nat.zero_add, Nat.add_zero, Nat.mul_one, Int.toNat_natCast, toNat_sub1, toNat_add1, decide_true, decide_false, Bool.not_true, Bool.not_false, if_true, if_false, Bool.false_eq_true, reduceCtorEq, hjl', r_ld hce', r_ld c2, hneg, hC, hj0', hi0', r_ld hcu, r_ld hcv, hl2]
    exact ⟨⟨j + 1, by omega, by go_num, trivial, fin1 (okAt_iff.2 (by omega))⟩, by simp only [intOf]; omega⟩
  have hi0' : ¬ (0 : Int) < i := by omega
  simp (disch := omega) only [r_ln, r_pick, r_pickT, r_pickF, r_condT, r_condF, r_gdTT, r_gdFF, r_gdTF, r_gdFT, r_gqTT, r_gqFF, r_gqTF, r_gqFT, r_not, r_lss, r_leq, r_gtr, r_geq, r_eql, r_neq, r_add, r_sub, r_min2, r_max2, r_min3, r_max3, r_fa, r_iaS, r_iaA, r_ex2a, r_ex2b, r_ex3a, r_ex3b, r_ex3c, r_nc, r_keepE, Nat.zero_add, Nat.add_zero, Nat.mul_one, Int.toNat_natCast, toNat_sub1, toNat_add1, decide_true, decide_false, Bool.not_true, Bool.not_false, if_true, if_false, Bool.false_eq_true, reduceCtorEq, hjl', r_ld hce', r_ld c2, hneg, hC, hj0', hi0']
  exact ⟨⟨j + 1, by omega, by go_num, trivial, fin1 (okAt_iff.2 (by omega))⟩, by simp only [intOf]; omega⟩

end Go.Proofs.Ytaephdjmpmbfpaa
