/- Contracts: determinant, Paths. -/
import Derived.Test.YtaephdjmpmbfpaaE1
set_option linter.all false
namespace Go.Proofs.Ytaephdjmpmbfpaa
open Go.Lf Go.RowKit Go.Hp

theorem row_two (r : List Int) (j : Nat) : [r.take j, r.drop (j + 1)].flatten = r.take j ++ r.drop (j + 1) := by simp

theorem minor_take {n j i : Nat} {m : List (List Int)} (hs : Sized (n + 1) (n + 1) m) (hi : i < n) : (minorM j m).take (i + 1) = (minorM j m).take i ++ [(m.getD (i + 1) []).take j ++ (m.getD (i + 1) []).drop (j + 1)] := by
  have hl : (minorM j m).length = n := by simp [minorM, hs.1]
  rw [List.take_succ_eq_append_getElem (by omega), ← getD_lt _ _ [] (by omega), minor_row hs hi]

set_option maxRecDepth 100000 in
theorem det_calls : ∀ (n : Nat) (m : List (List Int)) (v : Value) (base : Nat) (w : World), n ≤ 4 → Sized n n m → Small m → IntRows base w v m →
    Calls Try.prog 61 #[v] w fun e w' => e = .returned (.int .i64 (detM n m)) ∧ Kp w w' := by
  intro n
  induction n with
  | zero =>
    intro m v base w hn hs hsm hr
    refine lift61 ?_
    unfold S61
    obtain ⟨a, cap, rfl, _⟩ := hr.len
    have h0 := hs.1
    simp (disch := omega) only [r_ln, r_pick, r_pickT, r_pickF, r_condT, r_condF, r_gdTT, r_gdFF, r_gdTF, r_gdFT, r_gqTT, r_gqFF, r_gqTF, r_gqFT, r_not, r_lss, r_leq, r_gtr, r_geq, r_eql, r_neq, r_add, r_sub, r_min2, r_max2, r_min3, r_max3, r_fa, r_iaS, r_iaA, r_ex2a, r_ex2b, r_ex3a, r_ex3b, r_ex3c, r_nc, r_keepE, Nat.zero_add, Nat.add_zero, Nat.mul_one, Int.toNat_natCast, toNat_sub1, toNat_add1, decide_true, decide_false, Bool.not_true, Bool.not_false, if_true, if_false, Bool.false_eq_true, reduceCtorEq, h0]
    exact ⟨rfl, Kp.refl _⟩
  | succ n ih =>
    intro m v base w hn hs hsm hr
    refine lift61 ?_
    unfold S61
    have hl := hs.1
    obtain ⟨g, cap, r0, rfl, hcap, hc0, ho0⟩ := hr.at (i := 0) (by omega)
    obtain ⟨a0, cap0, rfl, hcap0, hrd0⟩ := ho0.form
    have hl0 := hs.2 0 (by omega)
    have hne : ¬ ((m.length : Int) = 0) := by omega
    have e00 : 0 + 0 * 1 = 0 := rfl
    simp (disch := omega) only [r_ln, r_pick, r_pickT, r_pickF, r_condT, r_condF, r_gdTT, r_gdFF, r_gdTF, r_gdFT, r_gqTT, r_gqFF, r_gqTF, r_gqFT, r_not, r_lss, r_leq, r_gtr, r_geq, r_eql, r_neq, r_add, r_sub, r_min2, r_max2, r_min3, r_max3, r_fa, r_iaS, r_iaA, r_ex2a, r_ex2b, r_ex3a, r_ex3b, r_ex3c, r_nc, r_keepE, Nat.zero_add, Nat.add_zero, Nat.mul_one, Int.toNat_natCast, toNat_sub1, toNat_add1, decide_true, decide_false, Bool.not_true, Bool.not_false, if_true, if_false, Bool.false_eq_true, reduceCtorEq, hne, Int.toNat_zero, Nat.zero_mul, r_ld hc0]
    refine ⟨fun t3 t4 t17 wr => ∃ j : Nat, j ≤ n + 1 ∧ t17 = .int .i64 j ∧ t3 = .int .i64 (sumTo (fun j => sg j * hat m 0 j * detM n (minorM j m)) j) ∧ t4 = .int .i64 (sg j) ∧ Kp w wr, fun _ _ t17 _ => n + 1 - (intOf t17).toNat, ⟨0, by omega, rfl, rfl, rfl, Kp.refl _⟩, ?_⟩
    rintro _ _ _ _ wr ⟨j, hj, rfl, rfl, rfl, hk⟩
    rw [hl0]
    by_cases hlt : j < n + 1
    case neg =>
      have hlt' : ¬ (j : Int) < ((n + 1 : Nat) : Int) := by omega
      have e : j = n + 1 := by omega
      subst e
      simp (disch := omega) only [r_ln, r_pick, r_pickT, r_pickF, r_condT, r_condF, r_gdTT, r_gdFF, r_gdTF, r_gdFT, r_gqTT, r_gqFF, r_gqTF, r_gqFT, r_not, r_lss, r_leq, r_gtr, r_geq, r_eql, r_neq, r_add, r_sub, r_min2, r_max2, r_min3, r_max3, r_fa, r_iaS, r_iaA, r_ex2a, r_ex2b, r_ex3a, r_ex3b, r_ex3c, r_nc, r_keepE, Nat.zero_add, Nat.add_zero, Nat.mul_one, Int.toNat_natCast, toNat_sub1, toNat_add1, decide_true, decide_false, Bool.not_true, Bool.not_false, if_true, if_false, Bool.false_eq_true, reduceCtorEq, hlt']
      exact ⟨rfl, hk⟩
    have hlt' : (j : Int) < ((n + 1 : Nat) : Int) := by omega
    obtain ⟨b, off, _, e1, hcj⟩ := hrd0.at (j := j) (by omega)
    cases e1
    have hcj' := cell_later hk hcj
    have hrest : 1 < cap ∨ n = 0 := by omega
    simp (disch := omega) only [r_ln, r_pick, r_pickT, r_pickF, r_condT, r_condF, r_gdTT, r_gdFF, r_gdTF, r_gdFT, r_gqTT, r_gqFF, r_gqTF, r_gqFT, r_not, r_lss, r_leq, r_gtr, r_geq, r_eql, r_neq, r_add, r_sub, r_min2, r_max2, r_min3, r_max3, r_fa, r_iaS, r_iaA, r_ex2a, r_ex2b, r_ex3a, r_ex3b, r_ex3c, r_nc, r_keepE, Nat.zero_add, Nat.add_zero, Nat.mul_one, Int.toNat_natCast, toNat_sub1, toNat_add1, decide_true, decide_false, Bool.not_true, Bool.not_false, if_true, if_false, Bool.false_eq_true, reduceCtorEq, hlt', r_ld hcj', r_slFrom]
    have e1 : (1 : Int).toNat = 1 := rfl
    have e2 : m.length - 1 = n := by omega
    simp only [e1, e2]
    refine ⟨fun t7 t25 w2 => ∃ i : Nat, i ≤ n ∧ t25 = .int .i64 i ∧ Kp wr w2 ∧ IntRows wr.heap.size w2 t7 ((minorM j m).take i), fun _ t25 _ => n - (intOf t25).toNat, ⟨0, by omega, rfl, Kp.refl _, by rw [List.take_zero]; exact IntRows.nil _ _⟩, ?_⟩
    rintro _ t7 _ w2 ⟨i, hi, rfl, hk2, hir⟩
    have hkw2 := Kp.trans hk hk2
    have hml : (minorM j m).length = n := by simp [minorM, hl]
    by_cases hin : i < n
    case neg =>
      have hin' : ¬ (i : Int) < (n : Int) := by omega
      have e : i = n := by omega
      subst e
      rw [List.take_of_length_le (by omega)] at hir
      obtain ⟨d1, d2, d3, d4⟩ := det_step (n := i) (by omega) hs hsm hlt
      have hsg := sg_small j
      have hat0 : (m.getD 0 []).getD j 0 = hat m 0 j := rfl
      simp (disch := omega) only [r_ln, r_pick, r_pickT, r_pickF, r_condT, r_condF, r_gdTT, r_gdFF, r_gdTF, r_gdFT, r_gqTT, r_gqFF, r_gqTF, r_gqFT, r_not, r_lss, r_leq, r_gtr, r_geq, r_eql, r_neq, r_add, r_sub, r_min2, r_max2, r_min3, r_max3, r_fa, r_iaS, r_iaA, r_ex2a, r_ex2b, r_ex3a, r_ex3b, r_ex3c, r_nc, r_keepE, Nat.zero_add, Nat.add_zero, Nat.mul_one, Int.toNat_natCast, toNat_sub1, toNat_add1, decide_true, decide_false, Bool.not_true, Bool.not_false, if_true, if_false, Bool.false_eq_true, reduceCtorEq, hin', hat0, r_mul]
      refine r_use fok61 (ih (minorM j m) t7 _ w2 (by omega) (minor_sized hs hlt) (minor_small hs hsm) hir) rfl ?_
      rintro _ w3 ⟨rfl, hk3⟩
      refine ⟨_, rfl, ?_⟩
      simp (disch := omega) only [r_ln, r_pick, r_pickT, r_pickF, r_condT, r_condF, r_gdTT, r_gdFF, r_gdTF, r_gdFT, r_gqTT, r_gqFF, r_gqTF, r_gqFT, r_not, r_lss, r_leq, r_gtr, r_geq, r_eql, r_neq, r_add, r_sub, r_min2, r_max2, r_min3, r_max3, r_fa, r_iaS, r_iaA, r_ex2a, r_ex2b, r_ex3a, r_ex3b, r_ex3c, r_nc, r_keepE, Nat.zero_add, Nat.add_zero, Nat.mul_one, Int.toNat_natCast, toNat_sub1, toNat_add1, decide_true, decide_false, Bool.not_true, Bool.not_false, if_true, if_false, Bool.false_eq_true, reduceCtorEq, r_mul, r_neg]
      refine ⟨⟨j + 1, by omega, by go_num, rfl, by rw [sg_succ], Kp.trans hkw2 hk3⟩, by simp only [intOf]; omega⟩
    have hin' : (i : Int) < (n : Int) := by omega
    have hcap1 : ¬ cap = 1 := by omega
    obtain ⟨_, _, ri, e5, _, hci, hoi⟩ := hr.at (i := i + 1) (by omega)
    cases e5
    have hci2 := cell_later hkw2 hci
    obtain ⟨ai, capi, rfl, hcapi, hrdi⟩ := (hoi.kp hkw2).form
    have hli := hs.2 (i + 1) (by omega)
    have e6 : (1 * 1 + i * 1) = i + 1 := by omega
    simp (disch := omega) only [r_ln, r_pick, r_pickT, r_pickF, r_condT, r_condF, r_gdTT, r_gdFF, r_gdTF, r_gdFT, r_gqTT, r_gqFF, r_gqTF, r_gqFT, r_not, r_lss, r_leq, r_gtr, r_geq, r_eql, r_neq, r_add, r_sub, r_min2, r_max2, r_min3, r_max3, r_fa, r_iaS, r_iaA, r_ex2a, r_ex2b, r_ex3a, r_ex3b, r_ex3c, r_nc, r_keepE, Nat.zero_add, Nat.add_zero, Nat.mul_one, Int.toNat_natCast, toNat_sub1, toNat_add1, decide_true, decide_false, Bool.not_true, Bool.not_false, if_true, if_false, Bool.false_eq_true, reduceCtorEq, hin', hcap1, Option.map_some, r_addr, e6, r_ld hci2]
    have e7 : 1 + i = i + 1 := by omega
    rw [e7]
    simp (disch := omega) only [r_ln, r_pick, r_pickT, r_pickF, r_condT, r_condF, r_gdTT, r_gdFF, r_gdTF, r_gdFT, r_gqTT, r_gqFF, r_gqTF, r_gqFT, r_not, r_lss, r_leq, r_gtr, r_geq, r_eql, r_neq, r_add, r_sub, r_min2, r_max2, r_min3, r_max3, r_fa, r_iaS, r_iaA, r_ex2a, r_ex2b, r_ex3a, r_ex3b, r_ex3c, r_nc, r_keepE, Nat.zero_add, Nat.add_zero, Nat.mul_one, Int.toNat_natCast, toNat_sub1, toNat_add1, decide_true, decide_false, Bool.not_true, Bool.not_false, if_true, if_false, Bool.false_eq_true, reduceCtorEq, r_ld hci2]
    refine r_drew fun w3 hk3 _ => ?_
    have hrd3 := hrdi.below hk3
    simp (disch := omega) only [r_ln, r_pick, r_pickT, r_pickF, r_condT, r_condF, r_gdTT, r_gdFF, r_gdTF, r_gdFT, r_gqTT, r_gqFF, r_gqTF, r_gqFT, r_not, r_lss, r_leq, r_gtr, r_geq, r_eql, r_neq, r_add, r_sub, r_min2, r_max2, r_min3, r_max3, r_fa, r_iaS, r_iaA, r_ex2a, r_ex2b, r_ex3a, r_ex3b, r_ex3c, r_nc, r_keepE, Nat.zero_add, Nat.add_zero, Nat.mul_one, Int.toNat_natCast, toNat_sub1, toNat_add1, decide_true, decide_false, Bool.not_true, Bool.not_false, if_true, if_false, Bool.false_eq_true, reduceCtorEq, r_slTo, r_slFrom]
    have e8 : ((j : Int) + 1).toNat = j + 1 := by omega
    rw [bs26_2]
    refine ⟨below_alloc _, ?_⟩
    have hrr := rd_two (rd_to (c' := capi) (j := j) hrd3 (by omega)) (rd_from (c' := capi - (j + 1)) (j := j + 1) hrd3 (by omega) (by omega)) rfl
    refine r_use fok85 (concat_calls _ _ _ hrr ?_ ?_) rfl ?_
    · rw [row_two]; simp only [List.length_append, List.length_take, List.length_drop]; omega
    · rw [row_two]; simp only [List.length_append, List.length_take, List.length_drop]; omega
    rintro _ w4 ⟨v4, rfl, hk4, ho4⟩
    refine ⟨_, rfl, hk4, ?_⟩
    have hk24 := Kp.trans (Kp.trans hk3 (below_alloc _)) hk4
    rw [row_two] at ho4
    refine r_pushRowK (hir.kp hk24) ⟨⟨_, ho4⟩, by simp only [List.length_append, List.length_take, List.length_drop]; omega⟩ (by rw [List.length_take]; omega) (by have := hk2.size; have := hk24.size; omega) (Kp.trans hk2 hk24) (Nat.le_refl _) fun v5 w5 hir5 hk5 => ?_
    refine ⟨⟨i + 1, by omega, by go_num, hk5, by rw [minor_take hs hin]; exact hir5⟩, by simp only [intOf]; omega⟩

set_option maxRecDepth 100000 in
theorem refdet_calls : ∀ (n : Nat) (m : List (List Int)) (v : Value) (base : Nat) (w : World), n ≤ 4 → Sized n n m → Small m → IntRows base w v m →
    Calls Try.prog 64 #[v] w fun e w' => e = .returned (.int .i64 (detM n m)) ∧ Kp w w' := by
  intro n
  induction n with
  | zero =>
    intro m v base w hn hs hsm hr
    refine lift64 ?_
    unfold S64
    obtain ⟨a, cap, rfl, _⟩ := hr.len
    have h0 := hs.1
    simp (disch := omega) only [r_ln, r_pick, r_pickT, r_pickF, r_condT, r_condF, r_gdTT, r_gdFF, r_gdTF, r_gdFT, r_gqTT, r_gqFF, r_gqTF, r_gqFT, r_not, r_lss, r_leq, r_gtr, r_geq, r_eql, r_neq, r_add, r_sub, r_min2, r_max2, r_min3, r_max3, r_fa, r_iaS, r_iaA, r_ex2a, r_ex2b, r_ex3a, r_ex3b, r_ex3c, r_nc, r_keepE, Nat.zero_add, Nat.add_zero, Nat.mul_one, Int.toNat_natCast, toNat_sub1, toNat_add1, decide_true, decide_false, Bool.not_true, Bool.not_false, if_true, if_false, Bool.false_eq_true, reduceCtorEq, h0]
    exact ⟨rfl, Kp.refl _⟩
  | succ n ih =>
    intro m v base w hn hs hsm hr
    refine lift64 ?_
    unfold S64
    have hl := hs.1
    obtain ⟨g, cap, r0, rfl, hcap, hc0, ho0⟩ := hr.at (i := 0) (by omega)
    obtain ⟨a0, cap0, rfl, hcap0, hrd0⟩ := ho0.form
    have hl0 := hs.2 0 (by omega)
    have hne : ¬ ((m.length : Int) = 0) := by omega
    simp (disch := omega) only [r_ln, r_pick, r_pickT, r_pickF, r_condT, r_condF, r_gdTT, r_gdFF, r_gdTF, r_gdFT, r_gqTT, r_gqFF, r_gqTF, r_gqFT, r_not, r_lss, r_leq, r_gtr, r_geq, r_eql, r_neq, r_add, r_sub, r_min2, r_max2, r_min3, r_max3, r_fa, r_iaS, r_iaA, r_ex2a, r_ex2b, r_ex3a, r_ex3b, r_ex3c, r_nc, r_keepE, Nat.zero_add, Nat.add_zero, Nat.mul_one, Int.toNat_natCast, toNat_sub1, toNat_add1, decide_true, decide_false, Bool.not_true, Bool.not_false, if_true, if_false, Bool.false_eq_true, reduceCtorEq, hne]
    refine ⟨fun t3 t4 t17 wr => ∃ j : Nat, j ≤ n + 1 ∧ t17 = .int .i64 j ∧ t3 = .int .i64 (sumTo (fun j => sg j * hat m 0 j * detM n (minorM j m)) j) ∧ t4 = .int .i64 (sg j) ∧ Kp w wr, fun _ _ t17 _ => n + 1 - (intOf t17).toNat, ⟨0, by omega, rfl, rfl, rfl, Kp.refl _⟩, ?_⟩
    rintro _ _ _ _ wr ⟨j, hj, rfl, rfl, rfl, hk⟩
    rw [hl]
    by_cases hlt : j < n + 1
    case neg =>
      have hlt' : ¬ (j : Int) < ((n + 1 : Nat) : Int) := by omega
      have e : j = n + 1 := by omega
      subst e
      simp (disch := omega) only [r_ln, r_pick, r_pickT, r_pickF, r_condT, r_condF, r_gdTT, r_gdFF, r_gdTF, r_gdFT, r_gqTT, r_gqFF, r_gqTF, r_gqFT, r_not, r_lss, r_leq, r_gtr, r_geq, r_eql, r_neq, r_add, r_sub, r_min2, r_max2, r_min3, r_max3, r_fa, r_iaS, r_iaA, r_ex2a, r_ex2b, r_ex3a, r_ex3b, r_ex3c, r_nc, r_keepE, Nat.zero_add, Nat.add_zero, Nat.mul_one, Int.toNat_natCast, toNat_sub1, toNat_add1, decide_true, decide_false, Bool.not_true, Bool.not_false, if_true, if_false, Bool.false_eq_true, reduceCtorEq, hlt']
      exact ⟨rfl, hk⟩
    have hlt' : (j : Int) < ((n + 1 : Nat) : Int) := by omega
    obtain ⟨b, off, _, e1, hcj⟩ := hrd0.at (j := j) (by omega)
    cases e1
    simp (disch := omega) only [r_ln, r_pick, r_pickT, r_pickF, r_condT, r_condF, r_gdTT, r_gdFF, r_gdTF, r_gdFT, r_gqTT, r_gqFF, r_gqTF, r_gqFT, r_not, r_lss, r_leq, r_gtr, r_geq, r_eql, r_neq, r_add, r_sub, r_min2, r_max2, r_min3, r_max3, r_fa, r_iaS, r_iaA, r_ex2a, r_ex2b, r_ex3a, r_ex3b, r_ex3c, r_nc, r_keepE, Nat.zero_add, Nat.add_zero, Nat.mul_one, Int.toNat_natCast, toNat_sub1, toNat_add1, decide_true, decide_false, Bool.not_true, Bool.not_false, if_true, if_false, Bool.false_eq_true, reduceCtorEq, hlt']
    refine ⟨fun t7 t25 w2 => ∃ i : Nat, i ≤ n ∧ t25 = .int .i64 (i + 1 : Nat) ∧ Kp wr w2 ∧ IntRows wr.heap.size w2 t7 ((minorM j m).take i), fun _ t25 _ => n + 1 - (intOf t25).toNat, ⟨0, by omega, rfl, Kp.refl _, by rw [List.take_zero]; exact IntRows.nil _ _⟩, ?_⟩
    rintro _ t7 _ w2 ⟨i, hi, rfl, hk2, hir⟩
    have hkw2 := Kp.trans hk hk2
    have hml : (minorM j m).length = n := by simp [minorM, hl]
    by_cases hin : i < n
    case neg =>
      have e : i = n := by omega
      subst e
      have hin' : ¬ ((i + 1 : Nat) : Int) < ((i + 1 : Nat) : Int) := by omega
      rw [List.take_of_length_le (by omega)] at hir
      obtain ⟨d1, d2, d3, d4⟩ := det_step (n := i) (by omega) hs hsm hlt
      have hsg := sg_small j
      have hat0 : (m.getD 0 []).getD j 0 = hat m 0 j := rfl
      simp (disch := omega) only [r_ln, r_pick, r_pickT, r_pickF, r_condT, r_condF, r_gdTT, r_gdFF, r_gdTF, r_gdFT, r_gqTT, r_gqFF, r_gqTF, r_gqFT, r_not, r_lss, r_leq, r_gtr, r_geq, r_eql, r_neq, r_add, r_sub, r_min2, r_max2, r_min3, r_max3, r_fa, r_iaS, r_iaA, r_ex2a, r_ex2b, r_ex3a, r_ex3b, r_ex3c, r_nc, r_keepE, Nat.zero_add, Nat.add_zero, Nat.mul_one, Int.toNat_natCast, toNat_sub1, toNat_add1, decide_true, decide_false, Bool.not_true, Bool.not_false, if_true, if_false, Bool.false_eq_true, reduceCtorEq, hin']
      refine r_drew fun w3 hk3 _ => ?_
      have hkw3 := Kp.trans hkw2 hk3
      have hc03 := cell_later hkw3 hc0
      have hcj3 := cell_later hkw3 hcj
      simp (disch := omega) only [r_ln, r_pick, r_pickT, r_pickF, r_condT, r_condF, r_gdTT, r_gdFF, r_gdTF, r_gdFT, r_gqTT, r_gqFF, r_gqTF, r_gqFT, r_not, r_lss, r_leq, r_gtr, r_geq, r_eql, r_neq, r_add, r_sub, r_min2, r_max2, r_min3, r_max3, r_fa, r_iaS, r_iaA, r_ex2a, r_ex2b, r_ex3a, r_ex3b, r_ex3c, r_nc, r_keepE, Nat.zero_add, Nat.add_zero, Nat.mul_one, Int.toNat_natCast, toNat_sub1, toNat_add1, decide_true, decide_false, Bool.not_true, Bool.not_false, if_true, if_false, Bool.false_eq_true, reduceCtorEq, Int.toNat_zero, Nat.zero_mul, r_ld hc03, hl, r_ld hcj3, hat0, r_mul]
      refine r_use fok64 (ih (minorM j m) t7 _ w3 (by omega) (minor_sized hs hlt) (minor_small hs hsm) (hir.kp hk3)) rfl ?_
      rintro _ w4 ⟨rfl, hk4⟩
      refine ⟨_, rfl, hk4, ?_⟩
      simp (disch := omega) only [r_ln, r_pick, r_pickT, r_pickF, r_condT, r_condF, r_gdTT, r_gdFF, r_gdTF, r_gdFT, r_gqTT, r_gqFF, r_gqTF, r_gqFT, r_not, r_lss, r_leq, r_gtr, r_geq, r_eql, r_neq, r_add, r_sub, r_min2, r_max2, r_min3, r_max3, r_fa, r_iaS, r_iaA, r_ex2a, r_ex2b, r_ex3a, r_ex3b, r_ex3c, r_nc, r_keepE, Nat.zero_add, Nat.add_zero, Nat.mul_one, Int.toNat_natCast, toNat_sub1, toNat_add1, decide_true, decide_false, Bool.not_true, Bool.not_false, if_true, if_false, Bool.false_eq_true, reduceCtorEq, r_mul, r_neg]
      refine ⟨⟨j + 1, by omega, by go_num, rfl, by rw [sg_succ], Kp.trans hkw3 hk4⟩, by simp only [intOf]; omega⟩
    have hin' : ((i + 1 : Nat) : Int) < ((n + 1 : Nat) : Int) := by omega
    obtain ⟨_, _, ri, e5, _, hci, hoi⟩ := hr.at (i := i + 1) (by omega)
    cases e5
    have hci2 := cell_later hkw2 hci
    obtain ⟨ai, capi, rfl, hcapi, hrdi⟩ := (hoi.kp hkw2).form
    have hli := hs.2 (i + 1) (by omega)
    simp (disch := omega) only [r_ln, r_pick, r_pickT, r_pickF, r_condT, r_condF, r_gdTT, r_gdFF, r_gdTF, r_gdFT, r_gqTT, r_gqFF, r_gqTF, r_gqFT, r_not, r_lss, r_leq, r_gtr, r_geq, r_eql, r_neq, r_add, r_sub, r_min2, r_max2, r_min3, r_max3, r_fa, r_iaS, r_iaA, r_ex2a, r_ex2b, r_ex3a, r_ex3b, r_ex3c, r_nc, r_keepE, Nat.zero_add, Nat.add_zero, Nat.mul_one, Int.toNat_natCast, toNat_sub1, toNat_add1, decide_true, decide_false, Bool.not_true, Bool.not_false, if_true, if_false, Bool.false_eq_true, reduceCtorEq, hin', r_ld hci2, r_slTo]
    have h1 := rd_to (c' := capi) (j := j) hrdi (by omega)
    refine r_apInts (base := w2.heap.size) (xs := []) (n := 0) (by simpa [intCells] using World.ownsRow_nil w2 w2.heap.size 3 1) h1 (by simp; omega) (Nat.le_refl _) fun v4 w4 ho4 hg4 => ?_
    have hk4 : Kp w2 w4 := Below.grown (Kp.refl _) hg4 (Nat.le_refl _) fun k hk' => by simp [Value.ownBlock] at hk'
    have hci4 := cell_later hk4 hci2
    simp (disch := omega) only [r_ln, r_pick, r_pickT, r_pickF, r_condT, r_condF, r_gdTT, r_gdFF, r_gdTF, r_gdFT, r_gqTT, r_gqFF, r_gqTF, r_gqFT, r_not, r_lss, r_leq, r_gtr, r_geq, r_eql, r_neq, r_add, r_sub, r_min2, r_max2, r_min3, r_max3, r_fa, r_iaS, r_iaA, r_ex2a, r_ex2b, r_ex3a, r_ex3b, r_ex3c, r_nc, r_keepE, Nat.zero_add, Nat.add_zero, Nat.mul_one, Int.toNat_natCast, toNat_sub1, toNat_add1, decide_true, decide_false, Bool.not_true, Bool.not_false, if_true, if_false, Bool.false_eq_true, reduceCtorEq, r_ld hci4, r_slFrom]
    have h2 := rd_from (c' := capi - (j + 1)) (j := j + 1) (hrdi.below hk4) (by omega) (by omega)
    refine r_apInts ho4 h2 (by simp only [List.length_drop, List.length_append, List.length_take, List.length_nil]; omega) hk4.size fun v5 w5 ho5 hg5 => ?_
    have hk5 : Kp w2 w5 := Below.grown hk4 hg5 hk4.size fun k hk' => (ho4.lt k hk').1
    refine r_pushRow (row := (m.getD (i + 1) []).take j ++ (m.getD (i + 1) []).drop (j + 1)) (hir.kp hk5) ⟨⟨w2.heap.size, ?_⟩, by simp only [List.length_append, List.length_take, List.length_drop]; omega⟩ (by rw [List.length_take]; omega) (by have := hk2.size; have := hk5.size; omega) (Kp.trans hk2 hk5) (Nat.le_refl _) fun v6 w6 hir6 hk6 => ?_
    · simpa using ho5
    refine ⟨⟨i + 1, by omega, by go_num, hk6, by rw [minor_take hs hin]; exact hir6⟩, by simp only [intOf]; omega⟩

theorem pathsM_take {A B C i : Nat} (hi : i < A) : (pathsM A B C).take (i + 1) = (pathsM A B C).take i ++ [(pathsM A B C).getD i []] := by
  have hl : (pathsM A B C).length = A := by simp [pathsM]
  rw [List.take_succ_eq_append_getElem (by omega), ← getD_lt _ _ [] (by omega)]

theorem pathsM_rowTake {A B C i j : Nat} (hi : i < A) (hj : j < A) : ((pathsM A B C).getD i []).take (j + 1) = ((pathsM A B C).getD i []).take j ++ [chZ (B + C) ((B : Int) - (i : Nat) + (j : Nat))] := by
  rw [pathsM_row hi, List.take_succ_eq_append_getElem (by simp; omega)]
  simp

/-- What Paths hands back. -/
def pathsN (A B C : Int) : Int := if validB A B C = true then detM A.toNat (pathsM A.toNat B.toNat C.toNat) else 0
def boxErr (A B C : Int) : Int := if validB A B C = true then 0 else 2

theorem validB_nat {A B C : Int} (h : validB A B C = true) : ∃ a b c : Nat, A = a ∧ B = b ∧ C = c ∧ 1 ≤ a ∧ a ≤ 4 ∧ 1 ≤ b ∧ b ≤ 4 ∧ 1 ≤ c ∧ c ≤ 4 := by
  simp only [validB, decide_eq_true_eq] at h
  exact ⟨A.toNat, B.toNat, C.toNat, by omega⟩

set_option maxRecDepth 100000 in
theorem paths_calls (A B C : Int) (w : World) : Calls Try.prog 25 #[boxV A B C] w fun e w' => e = .returned (.tuple #[.int .i64 (pathsN A B C), .int .i64 (boxErr A B C)]) ∧ Kp w w' := by
  refine lift25 ?_
  unfold S25
  refine r_box fun b w1 hbw hsz hb hk => ?_
  simp (disch := omega) only [r_ln, r_pick, r_pickT, r_pickF, r_condT, r_condF, r_gdTT, r_gdFF, r_gdTF, r_gdFT, r_gqTT, r_gqFF, r_gqTF, r_gqFT, r_not, r_lss, r_leq, r_gtr, r_geq, r_eql, r_neq, r_add, r_sub, r_min2, r_max2, r_min3, r_max3, r_fa, r_iaS, r_iaA, r_ex2a, r_ex2b, r_ex3a, r_ex3b, r_ex3c, r_nc, r_keepE, Nat.zero_add, Nat.add_zero, Nat.mul_one, Int.toNat_natCast, toNat_sub1, toNat_add1, decide_true, decide_false, Bool.not_true, Bool.not_false, if_true, if_false, Bool.false_eq_true, reduceCtorEq, r_ldRow (n := 3) hb rfl]
  refine r_use fok58 (valid_calls A B C w1) rfl ?_
  rintro e w2 ⟨rfl, hk2⟩
  refine ⟨_, rfl, ?_⟩
  have hkw2 := Kp.trans hk hk2
  have hb2 := block_below hb hk2
  by_cases hv : validB A B C = true
  case neg =>
    have hv' : validB A B C = false := by simpa using hv
    simp (disch := omega) only [r_ln, r_pick, r_pickT, r_pickF, r_condT, r_condF, r_gdTT, r_gdFF, r_gdTF, r_gdFT, r_gqTT, r_gqFF, r_gqTF, r_gqFT, r_not, r_lss, r_leq, r_gtr, r_geq, r_eql, r_neq, r_add, r_sub, r_min2, r_max2, r_min3, r_max3, r_fa, r_iaS, r_iaA, r_ex2a, r_ex2b, r_ex3a, r_ex3b, r_ex3c, r_nc, r_keepE, Nat.zero_add, Nat.add_zero, Nat.mul_one, Int.toNat_natCast, toNat_sub1, toNat_add1, decide_true, decide_false, Bool.not_true, Bool.not_false, if_true, if_false, Bool.false_eq_true, reduceCtorEq, hv']
    exact ⟨by simp [pathsN, boxErr, hv'], hkw2⟩
  obtain ⟨a, b', c, rfl, rfl, rfl, h1, h2, h3, h4, h5, h6⟩ := validB_nat hv
  obtain ⟨c0, c1, c2⟩ := box3 hb2
  simp (disch := omega) only [r_ln, r_pick, r_pickT, r_pickF, r_condT, r_condF, r_gdTT, r_gdFF, r_gdTF, r_gdFT, r_gqTT, r_gqFF, r_gqTF, r_gqFT, r_not, r_lss, r_leq, r_gtr, r_geq, r_eql, r_neq, r_add, r_sub, r_min2, r_max2, r_min3, r_max3, r_fa, r_iaS, r_iaA, r_ex2a, r_ex2b, r_ex3a, r_ex3b, r_ex3c, r_nc, r_keepE, Nat.zero_add, Nat.add_zero, Nat.mul_one, Int.toNat_natCast, toNat_sub1, toNat_add1, decide_true, decide_false, Bool.not_true, Bool.not_false, if_true, if_false, Bool.false_eq_true, reduceCtorEq, hv, r_ld c0]
  have hpl : (pathsM a b' c).length = a := by simp [pathsM]
  refine ⟨fun t4 t13 wr => ∃ i : Nat, i ≤ a ∧ t13 = .int .i64 i ∧ Kp w2 wr ∧ IntRows w2.heap.size wr t4 ((pathsM a b' c).take i), fun _ t13 _ => a - (intOf t13).toNat, ⟨0, by omega, rfl, Kp.refl _, by rw [List.take_zero]; exact IntRows.nil _ _⟩, ?_⟩
  rintro _ t4 _ wr ⟨i, hi, rfl, hkr, hir⟩
  have hkwr := Kp.trans hkw2 hkr
  by_cases hlt : i < a
  case neg =>
    have hlt' : ¬ (i : Int) < (a : Int) := by omega
    have e : i = a := by omega
    subst e
    rw [List.take_of_length_le (by omega)] at hir
    simp (disch := omega) only [r_ln, r_pick, r_pickT, r_pickF, r_condT, r_condF, r_gdTT, r_gdFF, r_gdTF, r_gdFT, r_gqTT, r_gqFF, r_gqTF, r_gqFT, r_not, r_lss, r_leq, r_gtr, r_geq, r_eql, r_neq, r_add, r_sub, r_min2, r_max2, r_min3, r_max3, r_fa, r_iaS, r_iaA, r_ex2a, r_ex2b, r_ex3a, r_ex3b, r_ex3c, r_nc, r_keepE, Nat.zero_add, Nat.add_zero, Nat.mul_one, Int.toNat_natCast, toNat_sub1, toNat_add1, decide_true, decide_false, Bool.not_true, Bool.not_false, if_true, if_false, Bool.false_eq_true, reduceCtorEq, hlt']
    refine r_use fok61 (det_calls i _ t4 _ wr (by omega) (pathsM_sized _ _ _) (pathsM_small (by omega)) hir) rfl ?_
    rintro _ w3 ⟨rfl, hk3⟩
    refine ⟨_, rfl, ?_⟩
    exact ⟨by simp [pathsN, boxErr, hv], Kp.trans hkwr hk3⟩
  have hlt' : (i : Int) < (a : Int) := by omega
  have d0 := cell_later hkr c0
  simp (disch := omega) only [r_ln, r_pick, r_pickT, r_pickF, r_condT, r_condF, r_gdTT, r_gdFF, r_gdTF, r_gdFT, r_gqTT, r_gqFF, r_gqTF, r_gqFT, r_not, r_lss, r_leq, r_gtr, r_geq, r_eql, r_neq, r_add, r_sub, r_min2, r_max2, r_min3, r_max3, r_fa, r_iaS, r_iaA, r_ex2a, r_ex2b, r_ex3a, r_ex3b, r_ex3c, r_nc, r_keepE, Nat.zero_add, Nat.add_zero, Nat.mul_one, Int.toNat_natCast, toNat_sub1, toNat_add1, decide_true, decide_false, Bool.not_true, Bool.not_false, if_true, if_false, Bool.false_eq_true, reduceCtorEq, hlt', r_ld d0]
  have hrl : ((pathsM a b' c).getD i []).length = a := by rw [pathsM_row hlt]; simp
  refine ⟨fun t6 t18 w4 => ∃ j : Nat, j ≤ a ∧ t18 = .int .i64 j ∧ Kp wr w4 ∧ w4.ownsRow wr.heap.size 3 1 t6 (((pathsM a b' c).getD i []).take j).length (intCells (((pathsM a b' c).getD i []).take j)), fun _ t18 _ => a - (intOf t18).toNat, ⟨0, by omega, rfl, Kp.refl _, by simpa [intCells] using World.ownsRow_nil wr wr.heap.size 3 1⟩, ?_⟩
  rintro _ t6 _ w4 ⟨j, hj, rfl, hk4, ho4⟩
  by_cases hjt : j < a
  case neg =>
    have hjt' : ¬ (j : Int) < (a : Int) := by omega
    have e : j = a := by omega
    subst e
    rw [List.take_of_length_le (by omega)] at ho4
    simp (disch := omega) only [r_ln, r_pick, r_pickT, r_pickF, r_condT, r_condF, r_gdTT, r_gdFF, r_gdTF, r_gdFT, r_gqTT, r_gqFF, r_gqTF, r_gqFT, r_not, r_lss, r_leq, r_gtr, r_geq, r_eql, r_neq, r_add, r_sub, r_min2, r_max2, r_min3, r_max3, r_fa, r_iaS, r_iaA, r_ex2a, r_ex2b, r_ex3a, r_ex3b, r_ex3c, r_nc, r_keepE, Nat.zero_add, Nat.add_zero, Nat.mul_one, Int.toNat_natCast, toNat_sub1, toNat_add1, decide_true, decide_false, Bool.not_true, Bool.not_false, if_true, if_false, Bool.false_eq_true, reduceCtorEq, hjt']
    refine r_pushRow (hir.kp hk4) ⟨⟨_, ho4⟩, by omega⟩ (by rw [List.length_take]; omega) (by have := hkr.size; have := hk4.size; omega) (Kp.trans hkr hk4) (Nat.le_refl _) fun v5 w5 hir5 hk5 => ?_
    exact ⟨⟨i + 1, by omega, by go_num, hk5, by rw [pathsM_take hlt]; exact hir5⟩, by simp only [intOf]; omega⟩
  have hjt' : (j : Int) < (a : Int) := by omega
  have d1 := cell_later (Kp.trans hkr hk4) c1
  have d2 := cell_later (Kp.trans hkr hk4) c2
  simp (disch := omega) only [r_ln, r_pick, r_pickT, r_pickF, r_condT, r_condF, r_gdTT, r_gdFF, r_gdTF, r_gdFT, r_gqTT, r_gqFF, r_gqTF, r_gqFT, r_not, r_lss, r_leq, r_gtr, r_geq, r_eql, r_neq, r_add, r_sub, r_min2, r_max2, r_min3, r_max3, r_fa, r_iaS, r_iaA, r_ex2a, r_ex2b, r_ex3a, r_ex3b, r_ex3c, r_nc, r_keepE, Nat.zero_add, Nat.add_zero, Nat.mul_one, Int.toNat_natCast, toNat_sub1, toNat_add1, decide_true, decide_false, Bool.not_true, Bool.not_false, if_true, if_false, Bool.false_eq_true, reduceCtorEq, hjt', r_ld d1, r_ld d2]
  have en : (b' : Int) + (c : Int) = ((b' + c : Nat) : Int) := by omega
  rw [en]
  refine r_use fok60 (choose_calls (b' + c) _ w4 (by omega) (by omega)) rfl ?_
  rintro _ _ ⟨rfl, rfl⟩
  refine ⟨_, rfl, ?_⟩
  refine r_pushInt ho4 (by rw [List.length_take]; omega) hk4.size hk4 (Nat.le_refl _) fun v5 w5 ho5 hk5 => ?_
  exact ⟨⟨j + 1, by omega, by go_num, hk5, by rw [pathsM_rowTake hlt hjt]; exact ho5⟩, by simp only [intOf]; omega⟩

set_option maxRecDepth 100000 in
theorem refpaths_calls (A B C : Int) (w : World) : Calls Try.prog 26 #[boxV A B C] w fun e w' => e = .returned (.tuple #[.int .i64 (pathsN A B C), .int .i64 (boxErr A B C)]) ∧ Kp w w' := by
  refine lift26 ?_
  unfold S26
  refine r_box fun b w1 hbw hsz hb hk => ?_
  simp (disch := omega) only [r_ln, r_pick, r_pickT, r_pickF, r_condT, r_condF, r_gdTT, r_gdFF, r_gdTF, r_gdFT, r_gqTT, r_gqFF, r_gqTF, r_gqFT, r_not, r_lss, r_leq, r_gtr, r_geq, r_eql, r_neq, r_add, r_sub, r_min2, r_max2, r_min3, r_max3, r_fa, r_iaS, r_iaA, r_ex2a, r_ex2b, r_ex3a, r_ex3b, r_ex3c, r_nc, r_keepE, Nat.zero_add, Nat.add_zero, Nat.mul_one, Int.toNat_natCast, toNat_sub1, toNat_add1, decide_true, decide_false, Bool.not_true, Bool.not_false, if_true, if_false, Bool.false_eq_true, reduceCtorEq, r_ldRow (n := 3) hb rfl]
  refine r_use fok62 (good_calls A B C w1) rfl ?_
  rintro e w2 ⟨rfl, hk2⟩
  refine ⟨_, rfl, ?_⟩
  have hkw2 := Kp.trans hk hk2
  have hb2 := block_below hb hk2
  by_cases hv : validB A B C = true
  case neg =>
    have hv' : validB A B C = false := by simpa using hv
    simp (disch := omega) only [r_ln, r_pick, r_pickT, r_pickF, r_condT, r_condF, r_gdTT, r_gdFF, r_gdTF, r_gdFT, r_gqTT, r_gqFF, r_gqTF, r_gqFT, r_not, r_lss, r_leq, r_gtr, r_geq, r_eql, r_neq, r_add, r_sub, r_min2, r_max2, r_min3, r_max3, r_fa, r_iaS, r_iaA, r_ex2a, r_ex2b, r_ex3a, r_ex3b, r_ex3c, r_nc, r_keepE, Nat.zero_add, Nat.add_zero, Nat.mul_one, Int.toNat_natCast, toNat_sub1, toNat_add1, decide_true, decide_false, Bool.not_true, Bool.not_false, if_true, if_false, Bool.false_eq_true, reduceCtorEq, hv']
    exact ⟨by simp [pathsN, boxErr, hv'], hkw2⟩
  obtain ⟨a, b', c, rfl, rfl, rfl, h1, h2, h3, h4, h5, h6⟩ := validB_nat hv
  obtain ⟨c0, c1, c2⟩ := box3 hb2
  simp (disch := omega) only [r_ln, r_pick, r_pickT, r_pickF, r_condT, r_condF, r_gdTT, r_gdFF, r_gdTF, r_gdFT, r_gqTT, r_gqFF, r_gqTF, r_gqFT, r_not, r_lss, r_leq, r_gtr, r_geq, r_eql, r_neq, r_add, r_sub, r_min2, r_max2, r_min3, r_max3, r_fa, r_iaS, r_iaA, r_ex2a, r_ex2b, r_ex3a, r_ex3b, r_ex3c, r_nc, r_keepE, Nat.zero_add, Nat.add_zero, Nat.mul_one, Int.toNat_natCast, toNat_sub1, toNat_add1, decide_true, decide_false, Bool.not_true, Bool.not_false, if_true, if_false, Bool.false_eq_true, reduceCtorEq, hv]
  have hpl : (pathsM a b' c).length = a := by simp [pathsM]
  refine ⟨fun t4 t13 wr => ∃ i : Nat, i ≤ a ∧ t13 = .int .i64 i ∧ Kp w2 wr ∧ IntRows w2.heap.size wr t4 ((pathsM a b' c).take i), fun _ t13 _ => a - (intOf t13).toNat, ⟨0, by omega, rfl, Kp.refl _, by rw [List.take_zero]; exact IntRows.nil _ _⟩, ?_⟩
  rintro _ t4 _ wr ⟨i, hi, rfl, hkr, hir⟩
  have hkwr := Kp.trans hkw2 hkr
  have d0 := cell_later hkr c0
  by_cases hlt : i < a
  case neg =>
    have hlt' : ¬ (i : Int) < (a : Int) := by omega
    have e : i = a := by omega
    subst e
    rw [List.take_of_length_le (by omega)] at hir
    simp (disch := omega) only [r_ln, r_pick, r_pickT, r_pickF, r_condT, r_condF, r_gdTT, r_gdFF, r_gdTF, r_gdFT, r_gqTT, r_gqFF, r_gqTF, r_gqFT, r_not, r_lss, r_leq, r_gtr, r_geq, r_eql, r_neq, r_add, r_sub, r_min2, r_max2, r_min3, r_max3, r_fa, r_iaS, r_iaA, r_ex2a, r_ex2b, r_ex3a, r_ex3b, r_ex3c, r_nc, r_keepE, Nat.zero_add, Nat.add_zero, Nat.mul_one, Int.toNat_natCast, toNat_sub1, toNat_add1, decide_true, decide_false, Bool.not_true, Bool.not_false, if_true, if_false, Bool.false_eq_true, reduceCtorEq, hlt', r_ld d0]
    refine r_use fok64 (refdet_calls i _ t4 _ wr (by omega) (pathsM_sized _ _ _) (pathsM_small (by omega)) hir) rfl ?_
    rintro _ w3 ⟨rfl, hk3⟩
    refine ⟨_, rfl, ?_⟩
    exact ⟨by simp [pathsN, boxErr, hv], Kp.trans hkwr hk3⟩
  have hlt' : (i : Int) < (a : Int) := by omega
  simp (disch := omega) only [r_ln, r_pick, r_pickT, r_pickF, r_condT, r_condF, r_gdTT, r_gdFF, r_gdTF, r_gdFT, r_gqTT, r_gqFF, r_gqTF, r_gqFT, r_not, r_lss, r_leq, r_gtr, r_geq, r_eql, r_neq, r_add, r_sub, r_min2, r_max2, r_min3, r_max3, r_fa, r_iaS, r_iaA, r_ex2a, r_ex2b, r_ex3a, r_ex3b, r_ex3c, r_nc, r_keepE, Nat.zero_add, Nat.add_zero, Nat.mul_one, Int.toNat_natCast, toNat_sub1, toNat_add1, decide_true, decide_false, Bool.not_true, Bool.not_false, if_true, if_false, Bool.false_eq_true, reduceCtorEq, hlt', r_ld d0]
  have hrl : ((pathsM a b' c).getD i []).length = a := by rw [pathsM_row hlt]; simp
  refine ⟨fun t6 t18 w4 => ∃ j : Nat, j ≤ a ∧ t18 = .int .i64 j ∧ Kp wr w4 ∧ w4.ownsRow wr.heap.size 3 1 t6 (((pathsM a b' c).getD i []).take j).length (intCells (((pathsM a b' c).getD i []).take j)), fun _ t18 _ => a - (intOf t18).toNat, ⟨0, by omega, rfl, Kp.refl _, by simpa [intCells] using World.ownsRow_nil wr wr.heap.size 3 1⟩, ?_⟩
  rintro _ t6 _ w4 ⟨j, hj, rfl, hk4, ho4⟩
  have f0 := cell_later hk4 d0
  by_cases hjt : j < a
  case neg =>
    have hjt' : ¬ (j : Int) < (a : Int) := by omega
    have e : j = a := by omega
    subst e
    rw [List.take_of_length_le (by omega)] at ho4
    simp (disch := omega) only [r_ln, r_pick, r_pickT, r_pickF, r_condT, r_condF, r_gdTT, r_gdFF, r_gdTF, r_gdFT, r_gqTT, r_gqFF, r_gqTF, r_gqFT, r_not, r_lss, r_leq, r_gtr, r_geq, r_eql, r_neq, r_add, r_sub, r_min2, r_max2, r_min3, r_max3, r_fa, r_iaS, r_iaA, r_ex2a, r_ex2b, r_ex3a, r_ex3b, r_ex3c, r_nc, r_keepE, Nat.zero_add, Nat.add_zero, Nat.mul_one, Int.toNat_natCast, toNat_sub1, toNat_add1, decide_true, decide_false, Bool.not_true, Bool.not_false, if_true, if_false, Bool.false_eq_true, reduceCtorEq, hjt', r_ld f0]
    refine r_pushRow (hir.kp hk4) ⟨⟨_, ho4⟩, by omega⟩ (by rw [List.length_take]; omega) (by have := hkr.size; have := hk4.size; omega) (Kp.trans hkr hk4) (Nat.le_refl _) fun v5 w5 hir5 hk5 => ?_
    exact ⟨⟨i + 1, by omega, by go_num, hk5, by rw [pathsM_take hlt]; exact hir5⟩, by simp only [intOf]; omega⟩
  have hjt' : (j : Int) < (a : Int) := by omega
  have d1 := cell_later (Kp.trans hkr hk4) c1
  have d2 := cell_later (Kp.trans hkr hk4) c2
  simp (disch := omega) only [r_ln, r_pick, r_pickT, r_pickF, r_condT, r_condF, r_gdTT, r_gdFF, r_gdTF, r_gdFT, r_gqTT, r_gqFF, r_gqTF, r_gqFT, r_not, r_lss, r_leq, r_gtr, r_geq, r_eql, r_neq, r_add, r_sub, r_min2, r_max2, r_min3, r_max3, r_fa, r_iaS, r_iaA, r_ex2a, r_ex2b, r_ex3a, r_ex3b, r_ex3c, r_nc, r_keepE, Nat.zero_add, Nat.add_zero, Nat.mul_one, Int.toNat_natCast, toNat_sub1, toNat_add1, decide_true, decide_false, Bool.not_true, Bool.not_false, if_true, if_false, Bool.false_eq_true, reduceCtorEq, hjt', r_ld d1, r_ld d2, r_ld f0]
  have en : (b' : Int) + (c : Int) = ((b' + c : Nat) : Int) := by omega
  rw [en]
  refine r_use fok63 (refchoose_calls (b' + c) _ w4 (by omega) (by omega)) rfl ?_
  rintro _ _ ⟨rfl, rfl⟩
  refine ⟨_, rfl, ?_⟩
  refine r_pushInt ho4 (by rw [List.length_take]; omega) hk4.size hk4 (Nat.le_refl _) fun v5 w5 ho5 hk5 => ?_
  exact ⟨⟨j + 1, by omega, by go_num, hk5, by rw [pathsM_rowTake hlt hjt]; exact ho5⟩, by simp only [intOf]; omega⟩

end Go.Proofs.Ytaephdjmpmbfpaa
