/- Contract: Good of the specification. -/
import Derived.Test.YtgalbokmgffhkaaC2
import Derived.Test.YtgalbokmgffhkaaSd
import Derived.Test.YtgalbokmgffhkaaSe
set_option linter.all false
namespace Go.Proofs.Ytgalbokmgffhkaa
open Go.Lf Go.RowKit Go.Wg

theorem goodV_bad {l : List Tile} {B : List (List Int)} (h : boardB l B = false) : goodV l B = .tuple #[.bool false, .bool false, .int .i64 2] := by
  unfold goodV; rw [h]; rfl

theorem RdRows.cell2 {w : World} {v : Value} {B : List (List Int)} (h : RdRows w v B) {y x : Nat} (hy : y < B.length) (hx : x < (B.getD y []).length) :
    ∃ b off cap b' off' cap', v = .slice (some ⟨b, off, none⟩) B.length cap ∧ w.cell? ⟨b, off + y, none⟩ = some (.slice (some ⟨b', off', none⟩) (B.getD y []).length cap') ∧ w.cell? ⟨b', off' + x, none⟩ = some (.int .i64 ((B.getD y []).getD x 0)) := by
  obtain ⟨b, off, cap, rv, e, hc, hr⟩ := h.row hy
  obtain ⟨b', off', cap', e', hc'⟩ := hr.at hx
  subst e'
  exact ⟨b, off, cap, b', off', cap', e, hc, hc'⟩

theorem judge_rows (l : List Tile) (B : List (List Int)) (w h : Nat) : judge l B w h = (List.range h).foldl (rowF l B w h) (true, true) := rfl

set_option maxRecDepth 100000 in
set_option maxHeartbeats 1000000 in
theorem refgood_calls {v bv : Value} {l : List Tile} {B : List (List Int)} (w : World) (hr : RdT w v l) (hb : RdRows w bv B) (hll : l.length ≤ 1000) : Calls Try.prog 22 #[v, bv] w fun e w' => e = .returned (goodV l B) ∧ Kp w w' := by
  obtain ⟨ba, bcap, rfl, hbl⟩ := hb.len
  obtain ⟨va, vcap, rfl, hvc⟩ := hr.len
  refine lift22 ?_
  unfold S22
  refine r_use fok35 (refset_calls w hr) rfl ?_
  rintro _ w1 ⟨rfl, k1⟩
  refine ⟨_, rfl, ?_⟩
  cases b1 : setB l with
  | false =>
    simp (disch := omega) only [r_ln, r_pick, r_pickT, r_pickF, r_condT, r_condF, r_gdTT, r_gdFF, r_gdTF, r_gdFT, r_gqTT, r_gqFF, r_gqTF, r_gqFT, r_not, r_lss, r_leq, r_gtr, r_geq, r_eql, r_neq, r_add, r_sub, r_min2, r_max2, r_min3, r_max3, r_fa, r_iaS, r_iaA, r_ex2a, r_ex2b, r_ex3a, r_ex3b, r_ex3c, r_nc, r_keepE, Nat.zero_add, Nat.add_zero, Nat.mul_one, Int.toNat_natCast, toNat_sub1, toNat_add1, decide_true, decide_false, Bool.not_true, Bool.not_false, if_true, if_false, Bool.false_eq_true, reduceCtorEq]
    exact ⟨by rw [goodV_bad (by simp [boardB, b1])], k1⟩
  | true =>
  simp (disch := omega) only [r_ln, r_pick, r_pickT, r_pickF, r_condT, r_condF, r_gdTT, r_gdFF, r_gdTF, r_gdFT, r_gqTT, r_gqFF, r_gqTF, r_gqFT, r_not, r_lss, r_leq, r_gtr, r_geq, r_eql, r_neq, r_add, r_sub, r_min2, r_max2, r_min3, r_max3, r_fa, r_iaS, r_iaA, r_ex2a, r_ex2b, r_ex3a, r_ex3b, r_ex3c, r_nc, r_keepE, Nat.zero_add, Nat.add_zero, Nat.mul_one, Int.toNat_natCast, toNat_sub1, toNat_add1, decide_true, decide_false, Bool.not_true, Bool.not_false, if_true, if_false, Bool.false_eq_true, reduceCtorEq]
  refine r_use fok68 (size_calls _ w1) rfl ?_
  rintro _ _ ⟨rfl, rfl⟩
  refine ⟨_, rfl, ?_⟩
  cases b2 : sideB (B.length : Int) with
  | false =>
    simp (disch := omega) only [r_ln, r_pick, r_pickT, r_pickF, r_condT, r_condF, r_gdTT, r_gdFF, r_gdTF, r_gdFT, r_gqTT, r_gqFF, r_gqTF, r_gqFT, r_not, r_lss, r_leq, r_gtr, r_geq, r_eql, r_neq, r_add, r_sub, r_min2, r_max2, r_min3, r_max3, r_fa, r_iaS, r_iaA, r_ex2a, r_ex2b, r_ex3a, r_ex3b, r_ex3c, r_nc, r_keepE, Nat.zero_add, Nat.add_zero, Nat.mul_one, Int.toNat_natCast, toNat_sub1, toNat_add1, decide_true, decide_false, Bool.not_true, Bool.not_false, if_true, if_false, Bool.false_eq_true, reduceCtorEq]
    exact ⟨by rw [goodV_bad (by simp [boardB, b2])], k1⟩
  | true =>
  have hH : 1 ≤ B.length ∧ B.length ≤ 4 := by simp only [sideB, decide_eq_true_eq] at b2; omega
  obtain ⟨ob, oo, _, rv, eo, oc, orow⟩ := (hb.below k1).row (i := 0) (by omega)
  cases eo
  obtain ⟨ra, rcap, rfl, hrl⟩ := orow.len
  rw [Nat.add_zero] at oc
  have i0 : (0 : Int).toNat = 0 := rfl
  simp (disch := omega) only [r_ln, r_pick, r_pickT, r_pickF, r_condT, r_condF, r_gdTT, r_gdFF, r_gdTF, r_gdFT, r_gqTT, r_gqFF, r_gqTF, r_gqFT, r_not, r_lss, r_leq, r_gtr, r_geq, r_eql, r_neq, r_add, r_sub, r_min2, r_max2, r_min3, r_max3, r_fa, r_iaS, r_iaA, r_ex2a, r_ex2b, r_ex3a, r_ex3b, r_ex3c, r_nc, r_keepE, Nat.zero_add, Nat.add_zero, Nat.mul_one, Int.toNat_natCast, toNat_sub1, toNat_add1, decide_true, decide_false, Bool.not_true, Bool.not_false, if_true, if_false, Bool.false_eq_true, reduceCtorEq, i0, Nat.zero_mul, r_ld oc]
  refine r_use fok68 (size_calls _ w1) rfl ?_
  rintro _ _ ⟨rfl, rfl⟩
  refine ⟨_, rfl, ?_⟩
  cases b3 : sideB ((B.getD 0 []).length : Int) with
  | false =>
    simp (disch := omega) only [r_ln, r_pick, r_pickT, r_pickF, r_condT, r_condF, r_gdTT, r_gdFF, r_gdTF, r_gdFT, r_gqTT, r_gqFF, r_gqTF, r_gqFT, r_not, r_lss, r_leq, r_gtr, r_geq, r_eql, r_neq, r_add, r_sub, r_min2, r_max2, r_min3, r_max3, r_fa, r_iaS, r_iaA, r_ex2a, r_ex2b, r_ex3a, r_ex3b, r_ex3c, r_nc, r_keepE, Nat.zero_add, Nat.add_zero, Nat.mul_one, Int.toNat_natCast, toNat_sub1, toNat_add1, decide_true, decide_false, Bool.not_true, Bool.not_false, if_true, if_false, Bool.false_eq_true, reduceCtorEq]
    exact ⟨by rw [goodV_bad (by simp only [boardB, b3, Bool.and_false, Bool.false_and])], k1⟩
  | true =>
  have hW : 1 ≤ (B.getD 0 []).length ∧ (B.getD 0 []).length ≤ 4 := by simp only [sideB, decide_eq_true_eq] at b3; omega
  simp (disch := omega) only [r_ln, r_pick, r_pickT, r_pickF, r_condT, r_condF, r_gdTT, r_gdFF, r_gdTF, r_gdFT, r_gqTT, r_gqFF, r_gqTF, r_gqFT, r_not, r_lss, r_leq, r_gtr, r_geq, r_eql, r_neq, r_add, r_sub, r_min2, r_max2, r_min3, r_max3, r_fa, r_iaS, r_iaA, r_ex2a, r_ex2b, r_ex3a, r_ex3b, r_ex3c, r_nc, r_keepE, Nat.zero_add, Nat.add_zero, Nat.mul_one, Int.toNat_natCast, toNat_sub1, toNat_add1, decide_true, decide_false, Bool.not_true, Bool.not_false, if_true, if_false, Bool.false_eq_true, reduceCtorEq, i0, Nat.zero_mul, r_ld oc]
  have bad : ∀ i, i < B.length → boardRow l (B.getD 0 []).length (B.getD i []) = false → goodV l B = .tuple #[.bool false, .bool false, .int .i64 2] := fun i hi h => by
    refine goodV_bad ?_
    cases hB : boardB l B with
    | false => rfl
    | true =>
      simp only [boardB, Bool.and_eq_true] at hB
      have := List.all_eq_true.1 hB.2 _ (getD_mem (d := []) hi)
      rw [h] at this; cases this
  generalize hWe : (B.getD 0 []).length = W at *
  refine ⟨fun t9 wr => ∃ i : Nat, i ≤ B.length ∧ t9 = .int .i64 i ∧ (∀ k, k < i → boardRow l W (B.getD k []) = true) ∧ w1 = wr, fun t9 _ => B.length - (intOf t9).toNat, ⟨0, by omega, rfl, fun k hk => absurd hk (by omega), rfl⟩, ?_⟩
  rintro _ _ _ ⟨i, hi, rfl, hok, rfl⟩
  by_cases hlt : i < B.length
  case pos =>
    have hlt' : (i : Int) < (B.length : Int) := by omega
    obtain ⟨pb, po, _, rv, ep, pc, prow⟩ := (hb.below k1).row hlt
    cases ep
    obtain ⟨qa, qcap, rfl, hql⟩ := prow.len
    by_cases hlen : ((B.getD i []).length : Int) = (W : Int)
    case neg =>
      simp (disch := omega) only [r_ln, r_pick, r_pickT, r_pickF, r_condT, r_condF, r_gdTT, r_gdFF, r_gdTF, r_gdFT, r_gqTT, r_gqFF, r_gqTF, r_gqFT, r_not, r_lss, r_leq, r_gtr, r_geq, r_eql, r_neq, r_add, r_sub, r_min2, r_max2, r_min3, r_max3, r_fa, r_iaS, r_iaA, r_ex2a, r_ex2b, r_ex3a, r_ex3b, r_ex3c, r_nc, r_keepE, Nat.zero_add, Nat.add_zero, Nat.mul_one, Int.toNat_natCast, toNat_sub1, toNat_add1, decide_true, decide_false, Bool.not_true, Bool.not_false, if_true, if_false, Bool.false_eq_true, reduceCtorEq, decide_eq_true hlt', r_ld pc, hlen]
      exact ⟨by rw [bad i hlt (by simp only [boardRow]; rw [decide_eq_false (by omega)]; rfl)], k1⟩
    simp (disch := omega) only [r_ln, r_pick, r_pickT, r_pickF, r_condT, r_condF, r_gdTT, r_gdFF, r_gdTF, r_gdFT, r_gqTT, r_gqFF, r_gqTF, r_gqFT, r_not, r_lss, r_leq, r_gtr, r_geq, r_eql, r_neq, r_add, r_sub, r_min2, r_max2, r_min3, r_max3, r_fa, r_iaS, r_iaA, r_ex2a, r_ex2b, r_ex3a, r_ex3b, r_ex3c, r_nc, r_keepE, Nat.zero_add, Nat.add_zero, Nat.mul_one, Int.toNat_natCast, toNat_sub1, toNat_add1, decide_true, decide_false, Bool.not_true, Bool.not_false, if_true, if_false, Bool.false_eq_true, reduceCtorEq, decide_eq_true hlt', r_ld pc, decide_eq_true hlen]
    refine ⟨fun t10 wr => ∃ j : Nat, j ≤ W ∧ t10 = .int .i64 j ∧ (∀ k, k < j → cellOk l ((B.getD i []).getD k 0) = true) ∧ w1 = wr, fun t10 _ => W - (intOf t10).toNat, ⟨0, by omega, rfl, fun k hk => absurd hk (by omega), rfl⟩, ?_⟩
    rintro _ _ _ ⟨j, hj, rfl, hcok, rfl⟩
    by_cases hjl : j < W
    case neg =>
      have hjl' : ¬ (j : Int) < (W : Int) := by omega
      simp (disch := omega) only [r_ln, r_pick, r_pickT, r_pickF, r_condT, r_condF, r_gdTT, r_gdFF, r_gdTF, r_gdFT, r_gqTT, r_gqFF, r_gqTF, r_gqFT, r_not, r_lss, r_leq, r_gtr, r_geq, r_eql, r_neq, r_add, r_sub, r_min2, r_max2, r_min3, r_max3, r_fa, r_iaS, r_iaA, r_ex2a, r_ex2b, r_ex3a, r_ex3b, r_ex3c, r_nc, r_keepE, Nat.zero_add, Nat.add_zero, Nat.mul_one, Int.toNat_natCast, toNat_sub1, toNat_add1, decide_true, decide_false, Bool.not_true, Bool.not_false, if_true, if_false, Bool.false_eq_true, reduceCtorEq, hjl']
      refine ⟨⟨i + 1, by omega, by go_num, fun k hk => ?_, by first | rfl | trivial⟩, by simp only [intOf]; omega⟩
      by_cases hki : k < i
      · exact hok k hki
      · have : k = i := by omega
        subst this
        simp only [boardRow, Bool.and_eq_true, decide_eq_true_eq, List.all_eq_true]
        refine ⟨by omega, fun x hx => ?_⟩
        obtain ⟨q, hq, rfl⟩ := List.getElem_of_mem hx
        have := hcok q (by omega)
        rwa [getD_lt _ _ _ hq] at this
    have hjl' : (j : Int) < (W : Int) := by omega
    obtain ⟨cb, co, _, ec, cc⟩ := prow.at (j := j) (by omega)
    cases ec
    have cbad : cellOk l ((B.getD i []).getD j 0) = false → boardRow l W (B.getD i []) = false := fun h => by
      cases hB : boardRow l W (B.getD i []) with
      | false => rfl
      | true =>
        simp only [boardRow, Bool.and_eq_true, List.all_eq_true] at hB
        have := hB.2 _ (getD_mem (d := (0 : Int)) (show j < (B.getD i []).length by omega))
        rw [h] at this; cases this
    by_cases h0 : (B.getD i []).getD j 0 < 0
    · simp (disch := omega) only [r_ln, r_pick, r_pickT, r_pickF, r_condT, r_condF, r_gdTT, r_gdFF, r_gdTF, r_gdFT, r_gqTT, r_gqFF, r_gqTF, r_gqFT, r_not, r_lss, r_leq, r_gtr, r_geq, r_eql, r_neq, r_add, r_sub, r_min2, r_max2, r_min3, r_max3, r_fa, r_iaS, r_iaA, r_ex2a, r_ex2b, r_ex3a, r_ex3b, r_ex3c, r_nc, r_keepE, Nat.zero_add, Nat.add_zero, Nat.mul_one, Int.toNat_natCast, toNat_sub1, toNat_add1, decide_true, decide_false, Bool.not_true, Bool.not_false, if_true, if_false, Bool.false_eq_true, reduceCtorEq, decide_eq_true hjl', r_ld pc, r_ld cc, decide_eq_true h0]
      exact ⟨by rw [bad i hlt (cbad (by simp only [cellOk]; rw [decide_eq_false (by omega)]; rfl))], k1⟩
    by_cases h1 : (l.length : Int) ≤ (B.getD i []).getD j 0
    · simp (disch := omega) only [r_ln, r_pick, r_pickT, r_pickF, r_condT, r_condF, r_gdTT, r_gdFF, r_gdTF, r_gdFT, r_gqTT, r_gqFF, r_gqTF, r_gqFT, r_not, r_lss, r_leq, r_gtr, r_geq, r_eql, r_neq, r_add, r_sub, r_min2, r_max2, r_min3, r_max3, r_fa, r_iaS, r_iaA, r_ex2a, r_ex2b, r_ex3a, r_ex3b, r_ex3c, r_nc, r_keepE, Nat.zero_add, Nat.add_zero, Nat.mul_one, Int.toNat_natCast, toNat_sub1, toNat_add1, decide_true, decide_false, Bool.not_true, Bool.not_false, if_true, if_false, Bool.false_eq_true, reduceCtorEq, decide_eq_true hjl', r_ld pc, r_ld cc, h0, decide_eq_true h1]
      exact ⟨by rw [bad i hlt (cbad (by simp only [cellOk]; rw [decide_eq_false (show ¬ (B.getD i []).getD j 0 < (l.length : Int) by omega), Bool.and_false]))], k1⟩
    simp (disch := omega) only [r_ln, r_pick, r_pickT, r_pickF, r_condT, r_condF, r_gdTT, r_gdFF, r_gdTF, r_gdFT, r_gqTT, r_gqFF, r_gqTF, r_gqFT, r_not, r_lss, r_leq, r_gtr, r_geq, r_eql, r_neq, r_add, r_sub, r_min2, r_max2, r_min3, r_max3, r_fa, r_iaS, r_iaA, r_ex2a, r_ex2b, r_ex3a, r_ex3b, r_ex3c, r_nc, r_keepE, Nat.zero_add, Nat.add_zero, Nat.mul_one, Int.toNat_natCast, toNat_sub1, toNat_add1, decide_true, decide_false, Bool.not_true, Bool.not_false, if_true, if_false, Bool.false_eq_true, reduceCtorEq, decide_eq_true hjl', r_ld pc, r_ld cc, h0, h1]
    refine ⟨⟨j + 1, by omega, by go_num, fun k hk => ?_, by first | rfl | trivial⟩, by simp only [intOf]; omega⟩
    by_cases hkj : k < j
    · exact hcok k hkj
    · have : k = j := by omega
      subst this
      simp only [cellOk, Bool.and_eq_true, decide_eq_true_eq]
      omega
  have hlt' : ¬ (i : Int) < (B.length : Int) := by omega
  have hall : B.all (boardRow l W) = true := List.all_eq_true.2 fun r hr => by
    obtain ⟨q, hq, rfl⟩ := List.getElem_of_mem hr
    have := hok q (by omega)
    rwa [getD_lt _ _ _ hq] at this
  simp (disch := omega) only [r_ln, r_pick, r_pickT, r_pickF, r_condT, r_condF, r_gdTT, r_gdFF, r_gdTF, r_gdFT, r_gqTT, r_gqFF, r_gqTF, r_gqFT, r_not, r_lss, r_leq, r_gtr, r_geq, r_eql, r_neq, r_add, r_sub, r_min2, r_max2, r_min3, r_max3, r_fa, r_iaS, r_iaA, r_ex2a, r_ex2b, r_ex3a, r_ex3b, r_ex3c, r_nc, r_keepE, Nat.zero_add, Nat.add_zero, Nat.mul_one, Int.toNat_natCast, toNat_sub1, toNat_add1, decide_true, decide_false, Bool.not_true, Bool.not_false, if_true, if_false, Bool.false_eq_true, reduceCtorEq, hlt']
  have hgv : goodV l B = .tuple #[.bool (judge l B W B.length).1, .bool (judge l B W B.length).2, .int .i64 0] := by
    have hB : boardB l B = true := by simp only [boardB, b1, b2, hWe, b3, hall, Bool.and_self]
    unfold goodV
    rw [hB, hWe]; rfl
  rw [hgv]
  have hle := judge_le l B W B.length
  have hrow := fun y hy => board_row (l := l) (B := B) (by rw [hWe]; exact hall) (y := y) hy
  rw [hWe] at hrow
  refine ⟨fun t11 t12 t13 wr => ∃ y : Nat, y ≤ B.length ∧ t13 = .int .i64 y ∧ t11 = .bool ((List.range y).foldl (rowF l B W B.length) (true, true)).1 ∧ t12 = .bool ((List.range y).foldl (rowF l B W B.length) (true, true)).2 ∧ Kp w1 wr, fun _ _ t13 _ => B.length - (intOf t13).toNat,
    ⟨0, by omega, rfl, rfl, rfl, Kp.refl _⟩, ?_⟩
  rintro _ _ _ _ wr ⟨y, hy, rfl, rfl, rfl, kr⟩
  by_cases hyl : y < B.length
  case neg =>
    have hyl' : ¬ (y : Int) < (B.length : Int) := by omega
    have ey : y = B.length := by omega
    subst ey
    rw [judge_rows] at hle ⊢
    simp (disch := omega) only [r_ln, r_pick, r_pickT, r_pickF, r_condT, r_condF, r_gdTT, r_gdFF, r_gdTF, r_gdFT, r_gqTT, r_gqFF, r_gqTF, r_gqFT, r_not, r_lss, r_leq, r_gtr, r_geq, r_eql, r_neq, r_add, r_sub, r_min2, r_max2, r_min3, r_max3, r_fa, r_iaS, r_iaA, r_ex2a, r_ex2b, r_ex3a, r_ex3b, r_ex3c, r_nc, r_keepE, Nat.zero_add, Nat.add_zero, Nat.mul_one, Int.toNat_natCast, toNat_sub1, toNat_add1, decide_true, decide_false, Bool.not_true, Bool.not_false, if_true, if_false, Bool.false_eq_true, reduceCtorEq, hyl']
    generalize (List.range B.length).foldl (rowF l B W B.length) (true, true) = s at *
    obtain ⟨g, c⟩ := s
    cases g with
    | true =>
      simp (disch := omega) only [r_ln, r_pick, r_pickT, r_pickF, r_condT, r_condF, r_gdTT, r_gdFF, r_gdTF, r_gdFT, r_gqTT, r_gqFF, r_gqTF, r_gqFT, r_not, r_lss, r_leq, r_gtr, r_geq, r_eql, r_neq, r_add, r_sub, r_min2, r_max2, r_min3, r_max3, r_fa, r_iaS, r_iaA, r_ex2a, r_ex2b, r_ex3a, r_ex3b, r_ex3c, r_nc, r_keepE, Nat.zero_add, Nat.add_zero, Nat.mul_one, Int.toNat_natCast, toNat_sub1, toNat_add1, decide_true, decide_false, Bool.not_true, Bool.not_false, if_true, if_false, Bool.false_eq_true, reduceCtorEq]
      exact ⟨by first | rfl | trivial, Kp.trans k1 kr⟩
    | false =>
      have hc : c = false := by
        cases c with
        | false => rfl
        | true => have := hle rfl; cases this
      subst hc
      simp (disch := omega) only [r_ln, r_pick, r_pickT, r_pickF, r_condT, r_condF, r_gdTT, r_gdFF, r_gdTF, r_gdFT, r_gqTT, r_gqFF, r_gqTF, r_gqFT, r_not, r_lss, r_leq, r_gtr, r_geq, r_eql, r_neq, r_add, r_sub, r_min2, r_max2, r_min3, r_max3, r_fa, r_iaS, r_iaA, r_ex2a, r_ex2b, r_ex3a, r_ex3b, r_ex3c, r_nc, r_keepE, Nat.zero_add, Nat.add_zero, Nat.mul_one, Int.toNat_natCast, toNat_sub1, toNat_add1, decide_true, decide_false, Bool.not_true, Bool.not_false, if_true, if_false, Bool.false_eq_true, reduceCtorEq]
      exact ⟨by first | rfl | trivial, Kp.trans k1 kr⟩
  have hyl' : (y : Int) < (B.length : Int) := by omega
  simp (disch := omega) only [r_ln, r_pick, r_pickT, r_pickF, r_condT, r_condF, r_gdTT, r_gdFF, r_gdTF, r_gdFT, r_gqTT, r_gqFF, r_gqTF, r_gqFT, r_not, r_lss, r_leq, r_gtr, r_geq, r_eql, r_neq, r_add, r_sub, r_min2, r_max2, r_min3, r_max3, r_fa, r_iaS, r_iaA, r_ex2a, r_ex2b, r_ex3a, r_ex3b, r_ex3c, r_nc, r_keepE, Nat.zero_add, Nat.add_zero, Nat.mul_one, Int.toNat_natCast, toNat_sub1, toNat_add1, decide_true, decide_false, Bool.not_true, Bool.not_false, if_true, if_false, Bool.false_eq_true, reduceCtorEq, decide_eq_true hyl']
  have hsy : (List.range (y + 1)).foldl (rowF l B W B.length) (true, true) = rowF l B W B.length ((List.range y).foldl (rowF l B W B.length) (true, true)) y := by
    rw [List.range_succ, List.foldl_append]; rfl
  generalize (List.range y).foldl (rowF l B W B.length) (true, true) = s0 at *
  refine ⟨fun t11 t12 t14 wq => ∃ x : Nat, x ≤ W ∧ t14 = .int .i64 x ∧ t11 = .bool ((List.range x).foldl (cellF l B W B.length y) s0).1 ∧ t12 = .bool ((List.range x).foldl (cellF l B W B.length y) s0).2 ∧ Kp w1 wq, fun _ _ t14 _ => W - (intOf t14).toNat,
    ⟨0, by omega, rfl, rfl, rfl, kr⟩, ?_⟩
  rintro _ _ _ _ wq ⟨x, hx, rfl, rfl, rfl, kq⟩
  by_cases hxl : x < W
  case neg =>
    have hxl' : ¬ (x : Int) < (W : Int) := by omega
    have ex : x = W := by omega
    subst ex
    simp (disch := omega) only [r_ln, r_pick, r_pickT, r_pickF, r_condT, r_condF, r_gdTT, r_gdFF, r_gdTF, r_gdFT, r_gqTT, r_gqFF, r_gqTF, r_gqFT, r_not, r_lss, r_leq, r_gtr, r_geq, r_eql, r_neq, r_add, r_sub, r_min2, r_max2, r_min3, r_max3, r_fa, r_iaS, r_iaA, r_ex2a, r_ex2b, r_ex3a, r_ex3b, r_ex3c, r_nc, r_keepE, Nat.zero_add, Nat.add_zero, Nat.mul_one, Int.toNat_natCast, toNat_sub1, toNat_add1, decide_true, decide_false, Bool.not_true, Bool.not_false, if_true, if_false, Bool.false_eq_true, reduceCtorEq, hxl']
    exact ⟨⟨y + 1, by omega, by go_num, by rw [hsy]; rfl, by rw [hsy]; rfl, kq⟩, by simp only [intOf]; omega⟩
  have hxl' : (x : Int) < (W : Int) := by omega
  have hsx : (List.range (x + 1)).foldl (cellF l B W B.length y) s0 = cellF l B W B.length y ((List.range x).foldl (cellF l B W B.length y) s0) x := by
    rw [List.range_succ, List.foldl_append]; rfl
  generalize (List.range x).foldl (cellF l B W B.length y) s0 = s at *
  have hx2 : (x + 1) % W < W := Nat.mod_lt _ (by omega)
  have hy2 : (y + 1) % B.length < B.length := Nat.mod_lt _ (by omega)
  obtain ⟨lr1, hc1⟩ := hrow y hyl
  obtain ⟨n0, e0, l0⟩ := hc1 x hxl
  obtain ⟨n1, e1, l1'⟩ := hc1 _ hx2
  obtain ⟨lr2, hc2⟩ := hrow _ hy2
  obtain ⟨n2, e2, l2'⟩ := hc2 x hxl
  have a0 : at2 l B y x = tl l n0 := by rw [at2, e0]; rfl
  have a1 : at2 l B y ((x + 1) % W) = tl l n1 := by rw [at2, e1]; rfl
  have a2 : at2 l B ((y + 1) % B.length) x = tl l n2 := by rw [at2, e2]; rfl
  have kwq := Kp.trans k1 kq
  obtain ⟨pb, po, _, qb, qo, _, ep, pc, qc⟩ := (hb.below kwq).cell2 (y := y) (x := x) hyl (by omega)
  cases ep
  rw [e0] at qc
  obtain ⟨tb, to, _, et, tld, _⟩ := RdT.tile (hr.kp kwq) l0
  cases et
  simp (disch := omega) only [r_ln, r_pick, r_pickT, r_pickF, r_condT, r_condF, r_gdTT, r_gdFF, r_gdTF, r_gdFT, r_gqTT, r_gqFF, r_gqTF, r_gqFT, r_not, r_lss, r_leq, r_gtr, r_geq, r_eql, r_neq, r_add, r_sub, r_min2, r_max2, r_min3, r_max3, r_fa, r_iaS, r_iaA, r_ex2a, r_ex2b, r_ex3a, r_ex3b, r_ex3c, r_nc, r_keepE, Nat.zero_add, Nat.add_zero, Nat.mul_one, Int.toNat_natCast, toNat_sub1, toNat_add1, decide_true, decide_false, Bool.not_true, Bool.not_false, if_true, if_false, Bool.false_eq_true, reduceCtorEq, decide_eq_true hxl', r_ld pc, r_ld qc, tld]
  refine r_box fun b15 x1 e15 s15 h15 y1 => ?_
  refine r_stAll (n := 4) (ty := 32) (by kernel_rfl) rfl (by intro u hu; simp [Value.cells] at hu; rcases hu with rfl | rfl | rfl | rfl <;> rfl) h15 rfl fun x2 d2 s2 h152 => ?_
  have y2 : Kp wq x2 := Kp.of_chg y1 d2 fun i e => by omega
  refine r_drew fun x3 y3 _ => ?_
  have k3 := Kp.trans kwq (Kp.trans y2 y3)
  have h153 := block_below h152 y3
  have cE : x3.cell? ⟨b15, 1, none⟩ = some (.int .i64 (tE (tl l n0))) := by rw [cell_row h153]; rfl
  obtain ⟨_, _, _, qb1, qo1, _, ep1, pc1, qc1⟩ := (hb.below k3).cell2 (y := y) (x := (x + 1) % W) hyl (by omega)
  cases ep1
  rw [e1] at qc1
  obtain ⟨_, _, _, et1, _, _, _, _, tW1⟩ := RdT.tile (hr.kp k3) l1'
  cases et1
  have ex1 : (x : Int) + 1 = ((x + 1 : Nat) : Int) := by simp
  have ey1 : (y : Int) + 1 = ((y + 1 : Nat) : Int) := by simp
  simp (disch := omega) only [r_ln, r_pick, r_pickT, r_pickF, r_condT, r_condF, r_gdTT, r_gdFF, r_gdTF, r_gdFT, r_gqTT, r_gqFF, r_gqTF, r_gqFT, r_not, r_lss, r_leq, r_gtr, r_geq, r_eql, r_neq, r_add, r_sub, r_min2, r_max2, r_min3, r_max3, r_fa, r_iaS, r_iaA, r_ex2a, r_ex2b, r_ex3a, r_ex3b, r_ex3c, r_nc, r_keepE, Nat.zero_add, Nat.add_zero, Nat.mul_one, Int.toNat_natCast, toNat_sub1, toNat_add1, decide_true, decide_false, Bool.not_true, Bool.not_false, if_true, if_false, Bool.false_eq_true, reduceCtorEq, r_ld cE, r_ld pc1, ex1, r_remN, r_ld qc1, r_ld tW1]
  refine r_join2 (fun p q w' => p = .bool (stE l B W y x s).1 ∧ q = .bool (stE l B W y x s).2 ∧ x3 = w') ?_ ?_
  rotate_left
  · intro kk hkk
    unfold stE at hkk
    rw [a0, a1] at hkk
    by_cases hm : tE (tl l n0) = tW (tl l n1)
    · rw [if_pos hm] at hkk
      simp (disch := omega) only [r_ln, r_pick, r_pickT, r_pickF, r_condT, r_condF, r_gdTT, r_gdFF, r_gdTF, r_gdFT, r_gqTT, r_gqFF, r_gqTF, r_gqFT, r_not, r_lss, r_leq, r_gtr, r_geq, r_eql, r_neq, r_add, r_sub, r_min2, r_max2, r_min3, r_max3, r_fa, r_iaS, r_iaA, r_ex2a, r_ex2b, r_ex3a, r_ex3b, r_ex3c, r_nc, r_keepE, Nat.zero_add, Nat.add_zero, Nat.mul_one, Int.toNat_natCast, toNat_sub1, toNat_add1, decide_true, decide_false, Bool.not_true, Bool.not_false, if_true, if_false, Bool.false_eq_true, reduceCtorEq, decide_eq_true hm]
      exact hkk _ _ _ ⟨rfl, rfl, rfl⟩
    · rw [if_neg hm] at hkk
      obtain ⟨g, c⟩ := s
      cases g with
      | false =>
        simp (disch := omega) only [r_ln, r_pick, r_pickT, r_pickF, r_condT, r_condF, r_gdTT, r_gdFF, r_gdTF, r_gdFT, r_gqTT, r_gqFF, r_gqTF, r_gqFT, r_not, r_lss, r_leq, r_gtr, r_geq, r_eql, r_neq, r_add, r_sub, r_min2, r_max2, r_min3, r_max3, r_fa, r_iaS, r_iaA, r_ex2a, r_ex2b, r_ex3a, r_ex3b, r_ex3c, r_nc, r_keepE, Nat.zero_add, Nat.add_zero, Nat.mul_one, Int.toNat_natCast, toNat_sub1, toNat_add1, decide_true, decide_false, Bool.not_true, Bool.not_false, if_true, if_false, Bool.false_eq_true, reduceCtorEq, hm]
        exact hkk _ _ _ ⟨rfl, rfl, rfl⟩
      | true =>
        simp (disch := omega) only [r_ln, r_pick, r_pickT, r_pickF, r_condT, r_condF, r_gdTT, r_gdFF, r_gdTF, r_gdFT, r_gqTT, r_gqFF, r_gqTF, r_gqFT, r_not, r_lss, r_leq, r_gtr, r_geq, r_eql, r_neq, r_add, r_sub, r_min2, r_max2, r_min3, r_max3, r_fa, r_iaS, r_iaA, r_ex2a, r_ex2b, r_ex3a, r_ex3b, r_ex3c, r_nc, r_keepE, Nat.zero_add, Nat.add_zero, Nat.mul_one, Int.toNat_natCast, toNat_sub1, toNat_add1, decide_true, decide_false, Bool.not_true, Bool.not_false, if_true, if_false, Bool.false_eq_true, reduceCtorEq, hm]
        refine hkk _ _ _ ⟨?_, rfl, rfl⟩
        congr 1
        rw [Bool.true_and, decide_eq_decide]
        omega
  rintro _ _ _ ⟨rfl, rfl, rfl⟩
  generalize hs1 : stE l B W y x s = s1 at *
  refine r_drew fun x4 y4 _ => ?_
  have k4 := Kp.trans k3 y4
  have h154 := block_below h153 y4
  have cS : x4.cell? ⟨b15, 2, none⟩ = some (.int .i64 (tS (tl l n0))) := by rw [cell_row h154]; rfl
  obtain ⟨_, _, _, qb2, qo2, _, ep2, pc2, qc2⟩ := (hb.below k4).cell2 (y := (y + 1) % B.length) (x := x) hy2 (by omega)
  cases ep2
  rw [e2] at qc2
  obtain ⟨_, _, _, et2, _, tN2, _⟩ := RdT.tile (hr.kp k4) l2'
  cases et2
  simp (disch := omega) only [r_ln, r_pick, r_pickT, r_pickF, r_condT, r_condF, r_gdTT, r_gdFF, r_gdTF, r_gdFT, r_gqTT, r_gqFF, r_gqTF, r_gqFT, r_not, r_lss, r_leq, r_gtr, r_geq, r_eql, r_neq, r_add, r_sub, r_min2, r_max2, r_min3, r_max3, r_fa, r_iaS, r_iaA, r_ex2a, r_ex2b, r_ex3a, r_ex3b, r_ex3c, r_nc, r_keepE, Nat.zero_add, Nat.add_zero, Nat.mul_one, Int.toNat_natCast, toNat_sub1, toNat_add1, decide_true, decide_false, Bool.not_true, Bool.not_false, if_true, if_false, Bool.false_eq_true, reduceCtorEq, r_ld cS, r_ld pc2, ey1, r_remN, r_ld qc2, r_ld tN2]
  refine r_join2 (fun p q w' => p = .bool (stS l B B.length y x s1).1 ∧ q = .bool (stS l B B.length y x s1).2 ∧ x4 = w') ?_ ?_
  rotate_left
  · intro kk hkk
    unfold stS at hkk
    rw [a0, a2] at hkk
    by_cases hm : tS (tl l n0) = tN (tl l n2)
    · rw [if_pos hm] at hkk
      simp (disch := omega) only [r_ln, r_pick, r_pickT, r_pickF, r_condT, r_condF, r_gdTT, r_gdFF, r_gdTF, r_gdFT, r_gqTT, r_gqFF, r_gqTF, r_gqFT, r_not, r_lss, r_leq, r_gtr, r_geq, r_eql, r_neq, r_add, r_sub, r_min2, r_max2, r_min3, r_max3, r_fa, r_iaS, r_iaA, r_ex2a, r_ex2b, r_ex3a, r_ex3b, r_ex3c, r_nc, r_keepE, Nat.zero_add, Nat.add_zero, Nat.mul_one, Int.toNat_natCast, toNat_sub1, toNat_add1, decide_true, decide_false, Bool.not_true, Bool.not_false, if_true, if_false, Bool.false_eq_true, reduceCtorEq, decide_eq_true hm]
      exact hkk _ _ _ ⟨rfl, rfl, rfl⟩
    · rw [if_neg hm] at hkk
      obtain ⟨g, c⟩ := s1
      cases g with
      | false =>
        simp (disch := omega) only [r_ln, r_pick, r_pickT, r_pickF, r_condT, r_condF, r_gdTT, r_gdFF, r_gdTF, r_gdFT, r_gqTT, r_gqFF, r_gqTF, r_gqFT, r_not, r_lss, r_leq, r_gtr, r_geq, r_eql, r_neq, r_add, r_sub, r_min2, r_max2, r_min3, r_max3, r_fa, r_iaS, r_iaA, r_ex2a, r_ex2b, r_ex3a, r_ex3b, r_ex3c, r_nc, r_keepE, Nat.zero_add, Nat.add_zero, Nat.mul_one, Int.toNat_natCast, toNat_sub1, toNat_add1, decide_true, decide_false, Bool.not_true, Bool.not_false, if_true, if_false, Bool.false_eq_true, reduceCtorEq, hm]
        exact hkk _ _ _ ⟨rfl, rfl, rfl⟩
      | true =>
        simp (disch := omega) only [r_ln, r_pick, r_pickT, r_pickF, r_condT, r_condF, r_gdTT, r_gdFF, r_gdTF, r_gdFT, r_gqTT, r_gqFF, r_gqTF, r_gqFT, r_not, r_lss, r_leq, r_gtr, r_geq, r_eql, r_neq, r_add, r_sub, r_min2, r_max2, r_min3, r_max3, r_fa, r_iaS, r_iaA, r_ex2a, r_ex2b, r_ex3a, r_ex3b, r_ex3c, r_nc, r_keepE, Nat.zero_add, Nat.add_zero, Nat.mul_one, Int.toNat_natCast, toNat_sub1, toNat_add1, decide_true, decide_false, Bool.not_true, Bool.not_false, if_true, if_false, Bool.false_eq_true, reduceCtorEq, hm]
        refine hkk _ _ _ ⟨?_, rfl, rfl⟩
        congr 1
        rw [Bool.true_and, decide_eq_decide]
        omega
  rintro _ _ _ ⟨rfl, rfl, rfl⟩
  try simp (disch := omega) only [r_ln, r_pick, r_pickT, r_pickF, r_condT, r_condF, r_gdTT, r_gdFF, r_gdTF, r_gdFT, r_gqTT, r_gqFF, r_gqTF, r_gqFT, r_not, r_lss, r_leq, r_gtr, r_geq, r_eql, r_neq, r_add, r_sub, r_min2, r_max2, r_min3, r_max3, r_fa, r_iaS, r_iaA, r_ex2a, r_ex2b, r_ex3a, r_ex3b, r_ex3c, r_nc, r_keepE, Nat.zero_add, Nat.add_zero, Nat.mul_one, Int.toNat_natCast, toNat_sub1, toNat_add1, decide_true, decide_false, Bool.not_true, Bool.not_false, if_true, if_false, Bool.false_eq_true, reduceCtorEq]
  have hcell : cellF l B W B.length y s x = stS l B B.length y x s1 := by rw [cellF, hs1]
  refine ⟨⟨x + 1, by omega, by first | rfl | go_num, by rw [hsx, hcell], by rw [hsx, hcell], Kp.trans kq (Kp.trans (Kp.trans y2 y3) y4)⟩, by simp only [intOf]; omega⟩

end Go.Proofs.Ytgalbokmgffhkaa
