/- Texts of my own, merged by program: C3 C4 N11. -/
import Derived.Test.YtgalbokmgffhkaaM18
import Derived.Test.YtgalbokmgffhkaaM13
import Derived.Test.YtgalbokmgffhkaaM22
import Derived.Test.YtgalbokmgffhkaaM19
import Derived.Test.YtgalbokmgffhkaaM21
set_option linter.all false
/- Contract: Good of the specification. -/
namespace Go.Proofs.Ytgalbokmgffhkaa
open Go.Lf Go.RowKit Go.Wg

theorem goodV_bad {l : List Tile} {B : List (List Int)} (h : boardB l B = false) : goodV l B = .tuple #[.bool false, .bool false, .int .i64 2] := by
  unfold goodV; rw [h]; rfl

theorem RdRows.cell2 {w : World} {v : Value} {B : List (List Int)} (h : RdRows w v B) {y x : Nat} (hy : y < B.length) (hx : x < (B.getD y []).length) :
    ∃ b off cap b' off' cap', v = .slice (some ⟨b, off, none⟩) B.length cap ∧ w.cell? ⟨b, off + y, none⟩ = some (.slice (some ⟨b', off', none⟩) (B.getD y []).length cap') ∧ w.cell? ⟨b', off' + x, none⟩ = some (.int .i64 ((B.getD y []).getD x 0)) := by
  obtain ⟨b, off, cap, rv, e, hc, hr⟩ := h.row hy
  obtain ⟨b', off', cap', e', hc'⟩ := hr.at hx
  subst e'
  exact ⟨b, off, cap, b', off', cap', e, hc, hc'⟩

theorem judge_rows (l : List Tile) (B : List (List Int)) (w h : Nat) : judge l B w h = (List.range h).foldl (rowF l B w h) (true, true) := rfl

set_option maxRecDepth 100000 in
set_option maxHeartbeats 1000000 in
theorem refgood_calls {v bv : Value} {l : List Tile} {B : List (List Int)} (w : World) (hr : RdT w v l) (hb : RdRows w bv B) (hll : l.length ≤ 1000) : Calls Try.prog 22 #[v, bv] w fun e w' => e = .returned (goodV l B) ∧ Kp w w' := by
  obtain ⟨ba, bcap, rfl, hbl⟩ := hb.len
  obtain ⟨va, vcap, rfl, hvc⟩ := hr.len
  refine lift22 ?_
  unfold S22
  refine r_use fok35 (refset_calls w hr) rfl ?_
  rintro _ w1 ⟨rfl, k1⟩
  refine ⟨_, rfl, ?_⟩
  cases b1 : setB l with
  | false =>
    simp (disch := omega) only [r_ln, r_pick, r_pickT, r_pickF, r_condT, r_condF, r_gdTT, r_gdFF, r_gdTF, r_gdFT, r_gqTT, r_gqFF, r_gqTF, r_gqFT, r_not, r_lss, r_leq, r_gtr, r_geq, r_eql, r_neq, r_add, r_sub, r_min2, r_max2, r_min3, r_max3, r_fa, r_iaS, r_iaA, r_ex2a, r_ex2b, r_ex3a, r_ex3b, r_ex3c, r_nc, r_keepE, Nat.zero_add, Nat.add_zero, Nat.mul_one, Int.toNat_natCast, toNat_sub1, toNat_add1, decide_true, decide_false, Bool.not_true, Bool.not_false, if_true, if_false, Bool.false_eq_true, reduceCtorEq]
    exact ⟨by rw [goodV_bad (by simp [boardB, b1])], k1⟩
  | true =>
  simp (disch := omega) only [r_ln, r_pick, r_pickT, r_pickF, r_condT, r_condF, r_gdTT, r_gdFF, r_gdTF, r_gdFT, r_gqTT, r_gqFF, r_gqTF, r_gqFT, r_not, r_lss, r_leq, r_gtr, r_geq, r_eql, r_neq, r_add, r_sub, r_min2, r_max2, r_min3, r_max3, r_fa, r_iaS, r_iaA, r_ex2a, r_ex2b, r_ex3a, r_ex3b, r_ex3c, r_nc, r_keepE, Nat.zero_add, Nat.add_zero, Nat.mul_one, Int.toNat_natCast, toNat_sub1, toNat_add1, decide_true, decide_false, Bool.not_true, Bool.not_false, if_true, if_false, Bool.false_eq_true, reduceCtorEq]
  refine r_use fok68 (size_calls _ w1) rfl ?_
  rintro _ _ ⟨rfl, rfl⟩
  refine ⟨_, rfl, ?_⟩
  cases b2 : sideB (B.length : Int) with
  | false =>
    simp (disch := omega) only [r_ln, r_pick, r_pickT, r_pickF, r_condT, r_condF, r_gdTT, r_gdFF, r_gdTF, r_gdFT, r_gqTT, r_gqFF, r_gqTF, r_gqFT, r_not, r_lss, r_leq, r_gtr, r_geq, r_eql, r_neq, r_add, r_sub, r_min2, r_max2, r_min3, r_max3, r_fa, r_iaS, r_iaA, r_ex2a, r_ex2b, r_ex3a, r_ex3b, r_ex3c, r_nc, r_keepE, Nat.zero_add, Nat.add_zero, Nat.mul_one, Int.toNat_natCast, toNat_sub1, toNat_add1, decide_true, decide_false, Bool.not_true, Bool.not_false, if_true, if_false, Bool.false_eq_true, reduceCtorEq]
    exact ⟨by rw [goodV_bad (by simp [boardB, b2])], k1⟩
  | true =>
  have hH : 1 ≤ B.length ∧ B.length ≤ 4 := by simp only [sideB, decide_eq_true_eq] at b2; omega
  obtain ⟨ob, oo, _, rv, eo, oc, orow⟩ := (hb.below k1).row (i := 0) (by omega)
  cases eo
  obtain ⟨ra, rcap, rfl, hrl⟩ := orow.len
  rw [Nat.add_zero] at oc
  have i0 : (0 : Int).toNat = 0 := rfl
  simp (disch := omega) only [r_ln, r_pick, r_pickT, r_pickF, r_condT, r_condF, r_gdTT, r_gdFF, r_gdTF, r_gdFT, r_gqTT, r_gqFF, r_gqTF, r_gqFT, r_not, r_lss, r_leq, r_gtr, r_geq, r_eql, r_neq, r_add, r_sub, r_min2, r_max2, r_min3, r_max3, r_fa, r_iaS, r_iaA, r_ex2a, r_ex2b, r_ex3a, r_ex3b, r_ex3c, r_nc, r_keepE, Nat.zero_add, Nat.add_zero, Nat.mul_one, Int.toNat_natCast, toNat_sub1, toNat_add1, decide_true, decide_false, Bool.not_true, Bool.not_false, if_true, if_false, Bool.false_eq_true, reduceCtorEq, i0, Nat.zero_mul, r_ld oc]
  refine r_use fok68 (size_calls _ w1) rfl ?_
  rintro _ _ ⟨rfl, rfl⟩
  refine ⟨_, rfl, ?_⟩
  cases b3 : sideB ((B.getD 0 []).length : Int) with
  | false =>
    simp (disch := omega) only [r_ln, r_pick, r_pickT, r_pickF, r_condT, r_condF, r_gdTT, r_gdFF, r_gdTF, r_gdFT, r_gqTT, r_gqFF, r_gqTF, r_gqFT, r_not, r_lss, r_leq, r_gtr, r_geq, r_eql, r_neq, r_add, r_sub, r_min2, r_max2, r_min3, r_max3, r_fa, r_iaS, r_iaA, r_ex2a, r_ex2b, r_ex3a, r_ex3b, r_ex3c, r_nc, r_keepE, Nat.zero_add, Nat.add_zero, Nat.mul_one, Int.toNat_natCast, toNat_sub1, toNat_add1, decide_true, decide_false, Bool.not_true, Bool.not_false, if_true, if_false, Bool.false_eq_true, reduceCtorEq]
    exact ⟨by rw [goodV_bad (by simp only [boardB, b3, Bool.and_false, Bool.false_and])], k1⟩
  | true =>
  have hW : 1 ≤ (B.getD 0 []).length ∧ (B.getD 0 []).length ≤ 4 := by simp only [sideB, decide_eq_true_eq] at b3; omega
  simp (disch := omega) only [r_ln, r_pick, r_pickT, r_pickF, r_condT, r_condF, r_gdTT, r_gdFF, r_gdTF, r_gdFT, r_gqTT, r_gqFF, r_gqTF, r_gqFT, r_not, r_lss, r_leq, r_gtr, r_geq, r_eql, r_neq, r_add, r_sub, r_min2, r_max2, r_min3, r_max3, r_fa, r_iaS, r_iaA, r_ex2a, r_ex2b, r_ex3a, r_ex3b, r_ex3c, r_nc, r_keepE, Nat.zero_add, Nat.add_zero, Nat.mul_one, Int.toNat_natCast, toNat_sub1, toNat_add1, decide_true, decide_false, Bool.not_true, Bool.not_false, if_true, if_false, Bool.false_eq_true, reduceCtorEq, i0, Nat.zero_mul, r_ld oc]
  have bad : ∀ i, i < B.length → boardRow l (B.getD 0 []).length (B.getD i []) = false → goodV l B = .tuple #[.bool false, .bool false, .int .i64 2] := fun i hi h => by
    refine goodV_bad ?_
    cases hB : boardB l B with
    | false => rfl
    | true =>
      simp only [boardB, Bool.and_eq_true] at hB
      have := List.all_eq_true.1 hB.2 _ (getD_mem (d := []) hi)
      rw [h] at this; cases this
  generalize hWe : (B.getD 0 []).length = W at *
  refine ⟨fun t9 wr => ∃ i : Nat, i ≤ B.length ∧ t9 = .int .i64 i ∧ (∀ k, k < i → boardRow l W (B.getD k []) = true) ∧ w1 = wr, fun t9 _ => B.length - (intOf t9).toNat, ⟨0, by omega, rfl, fun k hk => absurd hk (by omega), rfl⟩, ?_⟩
  rintro _ _ _ ⟨i, hi, rfl, hok, rfl⟩
  by_cases hlt : i < B.length
  case pos =>
    have hlt' : (i : Int) < (B.length : Int) := by omega
    obtain ⟨pb, po, _, rv, ep, pc, prow⟩ := (hb.below k1).row hlt
    cases ep
    obtain ⟨qa, qcap, rfl, hql⟩ := prow.len
    by_cases hlen : ((B.getD i []).length : Int) = (W : Int)
    case neg =>
      simp (disch := omega) only [r_ln, r_pick, r_pickT, r_pickF, r_condT, r_condF, r_gdTT, r_gdFF, r_gdTF, r_gdFT, r_gqTT, r_gqFF, r_gqTF, r_gqFT, r_not, r_lss, r_leq, r_gtr, r_geq, r_eql, r_neq, r_add, r_sub, r_min2, r_max2, r_min3, r_max3, r_fa, r_iaS, r_iaA, r_ex2a, r_ex2b, r_ex3a, r_ex3b, r_ex3c, r_nc, r_keepE, Nat.zero_add, Nat.add_zero, Nat.mul_one, Int.toNat_natCast, toNat_sub1, toNat_add1, decide_true, decide_false, Bool.not_true, Bool.not_false, if_true, if_false, Bool.false_eq_true, reduceCtorEq, decide_eq_true hlt', r_ld pc, hlen]
      exact ⟨by rw [bad i hlt (by simp only [boardRow]; rw [decide_eq_false (by omega)]; rfl)], k1⟩
    simp (disch := omega) only [r_ln, r_pick, r_pickT, r_pickF, r_condT, r_condF, r_gdTT, r_gdFF, r_gdTF, r_gdFT, r_gqTT, r_gqFF, r_gqTF, r_gqFT, r_not, r_lss, r_leq, r_gtr, r_geq, r_eql, r_neq, r_add, r_sub, r_min2, r_max2, r_min3, r_max3, r_fa, r_iaS, r_iaA, r_ex2a, r_ex2b, r_ex3a, r_ex3b, r_ex3c, r_nc, r_keepE, Nat.zero_add, Nat.add_zero, Nat.mul_one, Int.toNat_natCast, toNat_sub1, toNat_add1, decide_true, decide_false, Bool.not_true, Bool.not_false, if_true, if_false, Bool.false_eq_true, reduceCtorEq, decide_eq_true hlt', r_ld pc, decide_eq_true hlen]
    refine ⟨fun t10 wr => ∃ j : Nat, j ≤ W ∧ t10 = .int .i64 j ∧ (∀ k, k < j → cellOk l ((B.getD i []).getD k 0) = true) ∧ w1 = wr, fun t10 _ => W - (intOf t10).toNat, ⟨0, by omega, rfl, fun k hk => absurd hk (by omega), rfl⟩, ?_⟩
    rintro _ _ _ ⟨j, hj, rfl, hcok, rfl⟩
    by_cases hjl : j < W
    case neg =>
      have hjl' : ¬ (j : Int) < (W : Int) := by omega
      simp (disch := omega) only [r_ln, r_pick, r_pickT, r_pickF, r_condT, r_condF, r_gdTT, r_gdFF, r_gdTF, r_gdFT, r_gqTT, r_gqFF, r_gqTF, r_gqFT, r_not, r_lss, r_leq, r_gtr, r_geq, r_eql, r_neq, r_add, r_sub, r_min2, r_max2, r_min3, r_max3, r_fa, r_iaS, r_iaA, r_ex2a, r_ex2b, r_ex3a, r_ex3b, r_ex3c, r_nc, r_keepE, Nat.zero_add, Nat.add_zero, Nat.mul_one, Int.toNat_natCast, toNat_sub1, toNat_add1, decide_true, decide_false, Bool.not_true, Bool.not_false, if_true, if_false, Bool.false_eq_true, reduceCtorEq, hjl']
      refine ⟨⟨i + 1, by omega, by go_num, fun k hk => ?_, by first | rfl | trivial⟩, by simp only [intOf]; omega⟩
      by_cases hki : k < i
      · exact hok k hki
      · have : k = i := by omega
        subst this
        simp only [boardRow, Bool.and_eq_true, decide_eq_true_eq, List.all_eq_true]
        refine ⟨by omega, fun x hx => ?_⟩
        obtain ⟨q, hq, rfl⟩ := List.getElem_of_mem hx
        have := hcok q (by omega)
        rwa [getD_lt _ _ _ hq] at this
    have hjl' : (j : Int) < (W : Int) := by omega
    obtain ⟨cb, co, _, ec, cc⟩ := prow.at (j := j) (by omega)
    cases ec
    have cbad : cellOk l ((B.getD i []).getD j 0) = false → boardRow l W (B.getD i []) = false := fun h => by
      cases hB : boardRow l W (B.getD i []) with
      | false => rfl
      | true =>
        simp only [boardRow, Bool.and_eq_true, List.all_eq_true] at hB
        have := hB.2 _ (getD_mem (d := (0 : Int)) (show j < (B.getD i []).length by omega))
        rw [h] at this; cases this
    by_cases h0 : (B.getD i []).getD j 0 < 0
    · simp (disch := omega) only [r_ln, r_pick, r_pickT, r_pickF, r_condT, r_condF, r_gdTT, r_gdFF, r_gdTF, r_gdFT, r_gqTT, r_gqFF, r_gqTF, r_gqFT, r_not, r_lss, r_leq, r_gtr, r_geq, r_eql, r_neq, r_add, r_sub, r_min2, r_max2, r_min3, r_max3, r_fa, r_iaS, r_iaA, r_ex2a, r_ex2b, r_ex3a, r_ex3b, r_ex3c, r_nc, r_keepE, Nat.zero_add, Nat.add_zero, Nat.mul_one, Int.toNat_natCast, toNat_sub1, toNat_add1, decide_true, decide_false, Bool.not_true, Bool.not_false, if_true, if_false, Bool.false_eq_true, reduceCtorEq, decide_eq_true hjl', r_ld pc, r_ld cc, decide_eq_true h0]
      exact ⟨by rw [bad i hlt (cbad (by simp only [cellOk]; rw [decide_eq_false (by omega)]; rfl))], k1⟩
    by_cases h1 : (l.length : Int) ≤ (B.getD i []).getD j 0
    · simp (disch := omega) only [r_ln, r_pick, r_pickT, r_pickF, r_condT, r_condF, r_gdTT, r_gdFF, r_gdTF, r_gdFT, r_gqTT, r_gqFF, r_gqTF, r_gqFT, r_not, r_lss, r_leq, r_gtr, r_geq, r_eql, r_neq, r_add, r_sub, r_min2, r_max2, r_min3, r_max3, r_fa, r_iaS, r_iaA, r_ex2a, r_ex2b, r_ex3a, r_ex3b, r_ex3c, r_nc, r_keepE, Nat.zero_add, Nat.add_zero, Nat.mul_one, Int.toNat_natCast, toNat_sub1, toNat_add1, decide_true, decide_false, Bool.not_true, Bool.not_false, if_true, if_false, Bool.false_eq_true, reduceCtorEq, decide_eq_true hjl', r_ld pc, r_ld cc, h0, decide_eq_true h1]
      exact ⟨by rw [bad i hlt (cbad (by simp only [cellOk]; rw [decide_eq_false (show ¬ (B.getD i []).getD j 0 < (l.length : Int) by omega), Bool.and_false]))], k1⟩
    simp (disch := omega) only [r_ln, r_pick, r_pickT, r_pickF, r_condT, r_condF, r_gdTT, r_gdFF, r_gdTF, r_gdFT, r_gqTT, r_gqFF, r_gqTF, r_gqFT, r_not, r_lss, r_leq, r_gtr, r_geq, r_eql, r_neq, r_add, r_sub, r_min2, r_max2, r_min3, r_max3, r_fa, r_iaS, r_iaA, r_ex2a, r_ex2b, r_ex3a, r_ex3b, r_ex3c, r_nc, r_keepE, Nat.zero_add, Nat.add_zero, Nat.mul_one, Int.toNat_natCast, toNat_sub1, toNat_add1, decide_true, decide_false, Bool.not_true, Bool.not_false, if_true, if_false, Bool.false_eq_true, reduceCtorEq, decide_eq_true hjl', r_ld pc, r_ld cc, h0, h1]
    refine ⟨⟨j + 1, by omega, by go_num, fun k hk => ?_, by first | rfl | trivial⟩, by simp only [intOf]; omega⟩
    by_cases hkj : k < j
    · exact hcok k hkj
    · have : k = j := by omega
      subst this
      simp only [cellOk, Bool.and_eq_true, decide_eq_true_eq]
      omega
  have hlt' : ¬ (i : Int) < (B.length : Int) := by omega
  have hall : B.all (boardRow l W) = true := List.all_eq_true.2 fun r hr => by
    obtain ⟨q, hq, rfl⟩ := List.getElem_of_mem hr
    have := hok q (by omega)
    rwa [getD_lt _ _ _ hq] at this
  simp (disch := omega) only [r_ln, r_pick, r_pickT, r_pickF, r_condT, r_condF, r_gdTT, r_gdFF, r_gdTF, r_gdFT, r_gqTT, r_gqFF, r_gqTF, r_gqFT, r_not, r_lss, r_leq, r_gtr, r_geq, r_eql, r_neq, r_add, r_sub, r_min2, r_max2, r_min3, r_max3, r_fa, r_iaS, r_iaA, r_ex2a, r_ex2b, r_ex3a, r_ex3b, r_ex3c, r_nc, r_keepE, Nat.zero_add, Nat.add_zero, Nat.mul_one, Int.toNat_natCast, toNat_sub1, toNat_add1, decide_true, decide_false, Bool.not_true, Bool.not_false, if_true, if_false, Bool.false_eq_true, reduceCtorEq, hlt']
  have hgv : goodV l B = .tuple #[.bool (judge l B W B.length).1, .bool (judge l B W B.length).2, .int .i64 0] := by
    have hB : boardB l B = true := by simp only [boardB, b1, b2, hWe, b3, hall, Bool.and_self]
    unfold goodV
    rw [hB, hWe]; rfl
  rw [hgv]
  have hle := judge_le l B W B.length
  have hrow := fun y hy => board_row (l := l) (B := B) (by rw [hWe]; exact hall) (y := y) hy
  rw [hWe] at hrow
  refine ⟨fun t11 t12 t13 wr => ∃ y : Nat, y ≤ B.length ∧ t13 = .int .i64 y ∧ t11 = .bool ((List.range y).foldl (rowF l B W B.length) (true, true)).1 ∧ t12 = .bool ((List.range y).foldl (rowF l B W B.length) (true, true)).2 ∧ Kp w1 wr, fun _ _ t13 _ => B.length - (intOf t13).toNat,
    ⟨0, by omega, rfl, rfl, rfl, Kp.refl _⟩, ?_⟩
  rintro _ _ _ _ wr ⟨y, hy, rfl, rfl, rfl, kr⟩
  by_cases hyl : y < B.length
  case neg =>
    have hyl' : ¬ (y : Int) < (B.length : Int) := by omega
    have ey : y = B.length := by omega
    subst ey
    rw [judge_rows] at hle ⊢
    simp (disch := omega) only [r_ln, r_pick, r_pickT, r_pickF, r_condT, r_condF, r_gdTT, r_gdFF, r_gdTF, r_gdFT, r_gqTT, r_gqFF, r_gqTF, r_gqFT, r_not, r_lss, r_leq, r_gtr, r_geq, r_eql, r_neq, r_add, r_sub, r_min2, r_max2, r_min3, r_max3, r_fa, r_iaS, r_iaA, r_ex2a, r_ex2b, r_ex3a, r_ex3b, r_ex3c, r_nc, r_keepE, Nat.zero_add, Nat.add_zero, Nat.mul_one, Int.toNat_natCast, toNat_sub1, toNat_add1, decide_true, decide_false, Bool.not_true, Bool.not_false, if_true, if_false, Bool.false_eq_true, reduceCtorEq, hyl']
    generalize (List.range B.length).foldl (rowF l B W B.length) (true, true) = s at *
    obtain ⟨g, c⟩ := s
    cases g with
    | true =>
      simp (disch := omega) only [r_ln, r_pick, r_pickT, r_pickF, r_condT, r_condF, r_gdTT, r_gdFF, r_gdTF, r_gdFT, r_gqTT, r_gqFF, r_gqTF, r_gqFT, r_not, r_lss, r_leq, r_gtr, r_geq, r_eql, r_neq, r_add, r_sub, r_min2, r_max2, r_min3, r_max3, r_fa, r_iaS, r_iaA, r_ex2a, r_ex2b, r_ex3a, r_ex3b, r_ex3c, r_nc, r_keepE, Nat.zero_add, Nat.add_zero, Nat.mul_one, Int.toNat_natCast, toNat_sub1, toNat_add1, decide_true, decide_false, Bool.not_true, Bool.not_false, if_true, if_false, Bool.false_eq_true, reduceCtorEq]
      exact ⟨by first | rfl | trivial, Kp.trans k1 kr⟩
    | false =>
      have hc : c = false := by
        cases c with
        | false => rfl
        | true => have := hle rfl; cases this
      subst hc
      simp (disch := omega) only [r_ln, r_pick, r_pickT, r_pickF, r_condT, r_condF, r_gdTT, r_gdFF, r_gdTF, r_gdFT, r_gqTT, r_gqFF, r_gqTF, r_gqFT, r_not, r_lss, r_leq, r_gtr, r_geq, r_eql, r_neq, r_add, r_sub, r_min2, r_max2, r_min3, r_max3, r_fa, r_iaS, r_iaA, r_ex2a, r_ex2b, r_ex3a, r_ex3b, r_ex3c, r_nc, r_keepE, Nat.zero_add, Nat.add_zero, Nat.mul_one, Int.toNat_natCast, toNat_sub1, toNat_add1, decide_true, decide_false, Bool.not_true, Bool.not_false, if_true, if_false, Bool.false_eq_true, reduceCtorEq]
      exact ⟨by first | rfl | trivial, Kp.trans k1 kr⟩
  have hyl' : (y : Int) < (B.length : Int) := by omega
  simp (disch := omega) only [r_ln, r_pick, r_pickT, r_pickF, r_condT, r_condF, r_gdTT, r_gdFF, r_gdTF, r_gdFT, r_gqTT, r_gqFF, r_gqTF, r_gqFT, r_not, r_lss, r_leq, r_gtr, r_geq, r_eql, r_neq, r_add, r_sub, r_min2, r_max2, r_min3, r_max3, r_fa, r_iaS, r_iaA, r_ex2a, r_ex2b, r_ex3a, r_ex3b, r_ex3c, r_nc, r_keepE, Nat.zero_add, Nat.add_zero, Nat.mul_one, Int.toNat_natCast, toNat_sub1, toNat_add1, decide_true, decide_false, Bool.not_true, Bool.not_false, if_true, if_false, Bool.false_eq_true, reduceCtorEq, decide_eq_true hyl']
  have hsy : (List.range (y + 1)).foldl (rowF l B W B.length) (true, true) = rowF l B W B.length ((List.range y).foldl (rowF l B W B.length) (true, true)) y := by
    rw [List.range_succ, List.foldl_append]; rfl
  generalize (List.range y).foldl (rowF l B W B.length) (true, true) = s0 at *
  refine ⟨fun t11 t12 t14 wq => ∃ x : Nat, x ≤ W ∧ t14 = .int .i64 x ∧ t11 = .bool ((List.range x).foldl (cellF l B W B.length y) s0).1 ∧ t12 = .bool ((List.range x).foldl (cellF l B W B.length y) s0).2 ∧ Kp w1 wq, fun _ _ t14 _ => W - (intOf t14).toNat,
    ⟨0, by omega, rfl, rfl, rfl, kr⟩, ?_⟩
  rintro _ _ _ _ wq ⟨x, hx, rfl, rfl, rfl, kq⟩
  by_cases hxl : x < W
  case neg =>
    have hxl' : ¬ (x : Int) < (W : Int) := by omega
    have ex : x = W := by omega
    subst ex
    simp (disch := omega) only [r_ln, r_pick, r_pickT, r_pickF, r_condT, r_condF, r_gdTT, r_gdFF, r_gdTF, r_gdFT, r_gqTT, r_gqFF, r_gqTF, r_gqFT, r_not, r_lss, r_leq, r_gtr, r_geq, r_eql, r_neq, r_add, r_sub, r_min2, r_max2, r_min3, r_max3, r_fa, r_iaS, r_iaA, r_ex2a, r_ex2b, r_ex3a, r_ex3b, r_ex3c, r_nc, r_keepE, Nat.zero_add, Nat.add_zero, Nat.mul_one, Int.toNat_natCast, toNat_sub1, toNat_add1, decide_true, decide_false, Bool.not_true, Bool.not_false, if_true, if_false, Bool.false_eq_true, reduceCtorEq, hxl']
    exact ⟨⟨y + 1, by omega, by go_num, by rw [hsy]; rfl, by rw [hsy]; rfl, kq⟩, by simp only [intOf]; omega⟩
  have hxl' : (x : Int) < (W : Int) := by omega
  have hsx : (List.range (x + 1)).foldl (cellF l B W B.length y) s0 = cellF l B W B.length y ((List.range x).foldl (cellF l B W B.length y) s0) x := by
    rw [List.range_succ, List.foldl_append]; rfl
  generalize (List.range x).foldl (cellF l B W B.length y) s0 = s at *
  have hx2 : (x + 1) % W < W := Nat.mod_lt _ (by omega)
  have hy2 : (y + 1) % B.length < B.length := Nat.mod_lt _ (by omega)
  obtain ⟨lr1, hc1⟩ := hrow y hyl
  obtain ⟨n0, e0, l0⟩ := hc1 x hxl
  obtain ⟨n1, e1, l1'⟩ := hc1 _ hx2
  obtain ⟨lr2, hc2⟩ := hrow _ hy2
  obtain ⟨n2, e2, l2'⟩ := hc2 x hxl
  have a0 : at2 l B y x = tl l n0 := by rw [at2, e0]; rfl
  have a1 : at2 l B y ((x + 1) % W) = tl l n1 := by rw [at2, e1]; rfl
  have a2 : at2 l B ((y + 1) % B.length) x = tl l n2 := by rw [at2, e2]; rfl
  have kwq := Kp.trans k1 kq
  obtain ⟨pb, po, _, qb, qo, _, ep, pc, qc⟩ := (hb.below kwq).cell2 (y := y) (x := x) hyl (by omega)
  cases ep
  rw [e0] at qc
  obtain ⟨tb, to, _, et, tld, _⟩ := RdT.tile (hr.kp kwq) l0
  cases et
  simp (disch := omega) only [r_ln, r_pick, r_pickT, r_pickF, r_condT, r_condF, r_gdTT, r_gdFF, r_gdTF, r_gdFT, r_gqTT, r_gqFF, r_gqTF, r_gqFT, r_not, r_lss, r_leq, r_gtr, r_geq, r_eql, r_neq, r_add, r_sub, r_min2, r_max2, r_min3, r_max3, r_fa, r_iaS, r_iaA, r_ex2a, r_ex2b, r_ex3a, r_ex3b, r_ex3c, r_nc, r_keepE, Nat.zero_add, Nat.add_zero, Nat.mul_one, Int.toNat_natCast, toNat_sub1, toNat_add1, decide_true, decide_false, Bool.not_true, Bool.not_false, if_true, if_false, Bool.false_eq_true, reduceCtorEq, decide_eq_true hxl', r_ld pc, r_ld qc, tld]
  refine r_box fun b15 x1 e15 s15 h15 y1 => ?_
  refine r_stAll (n := 4) (ty := 32) (by kernel_rfl) rfl (by intro u hu; simp [Value.cells] at hu; rcases hu with rfl | rfl | rfl | rfl <;> rfl) h15 rfl fun x2 d2 s2 h152 => ?_
  have y2 : Kp wq x2 := Kp.of_chg y1 d2 fun i e => by omega
  refine r_drew fun x3 y3 _ => ?_
  have k3 := Kp.trans kwq (Kp.trans y2 y3)
  have h153 := block_below h152 y3
  have cE : x3.cell? ⟨b15, 1, none⟩ = some (.int .i64 (tE (tl l n0))) := by rw [cell_row h153]; rfl
  obtain ⟨_, _, _, qb1, qo1, _, ep1, pc1, qc1⟩ := (hb.below k3).cell2 (y := y) (x := (x + 1) % W) hyl (by omega)
  cases ep1
  rw [e1] at qc1
  obtain ⟨_, _, _, et1, _, _, _, _, tW1⟩ := RdT.tile (hr.kp k3) l1'
  cases et1
  have ex1 : (x : Int) + 1 = ((x + 1 : Nat) : Int) := by simp
  have ey1 : (y : Int) + 1 = ((y + 1 : Nat) : Int) := by simp
  simp (disch := omega) only [r_ln, r_pick, r_pickT, r_pickF, r_condT, r_condF, r_gdTT, r_gdFF, r_gdTF, r_gdFT, r_gqTT, r_gqFF, r_gqTF, r_gqFT, r_not, r_lss, r_leq, r_gtr, r_geq, r_eql, r_neq, r_add, r_sub, r_min2, r_max2, r_min3, r_max3, r_fa, r_iaS, r_iaA, r_ex2a, r_ex2b, r_ex3a, r_ex3b, r_ex3c, r_nc, r_keepE, Nat.zero_add, Nat.add_zero, Nat.mul_one, Int.toNat_natCast, toNat_sub1, toNat_add1, decide_true, decide_false, Bool.not_true, Bool.not_false, if_true, if_false, Bool.false_eq_true, reduceCtorEq, r_ld cE, r_ld pc1, ex1, r_remN, r_ld qc1, r_ld tW1]
  refine r_join2 (fun p q w' => p = .bool (stE l B W y x s).1 ∧ q = .bool (stE l B W y x s).2 ∧ x3 = w') ?_ ?_
  rotate_left
  · intro kk hkk
    unfold stE at hkk
    rw [a0, a1] at hkk
    by_cases hm : tE (tl l n0) = tW (tl l n1)
    · rw [if_pos hm] at hkk
      simp (disch := omega) only [r_ln, r_pick, r_pickT, r_pickF, r_condT, r_condF, r_gdTT, r_gdFF, r_gdTF, r_gdFT, r_gqTT, r_gqFF, r_gqTF, r_gqFT, r_not, r_lss, r_leq, r_gtr, r_geq, r_eql, r_neq, r_add, r_sub, r_min2, r_max2, r_min3, r_max3, r_fa, r_iaS, r_iaA, r_ex2a, r_ex2b, r_ex3a, r_ex3b, r_ex3c, r_nc, r_keepE, Nat.zero_add, Nat.add_zero, Nat.mul_one, Int.toNat_natCast, toNat_sub1, toNat_add1, decide_true, decide_false, Bool.not_true, Bool.not_false, if_true, if_false, Bool.false_eq_true, reduceCtorEq, decide_eq_true hm]
      exact hkk _ _ _ ⟨rfl, rfl, rfl⟩
    · rw [if_neg hm] at hkk
      obtain ⟨g, c⟩ := s
      cases g with
      | false =>
        simp (disch := omega) only [r_ln, r_pick, r_pickT, r_pickF, r_condT, r_condF, r_gdTT, r_gdFF, r_gdTF, r_gdFT, r_gqTT, r_gqFF, r_gqTF, r_gqFT, r_not, r_lss, r_leq, r_gtr, r_geq, r_eql, r_neq, r_add, r_sub, r_min2, r_max2, r_min3, r_max3, r_fa, r_iaS, r_iaA, r_ex2a, r_ex2b, r_ex3a, r_ex3b, r_ex3c, r_nc, r_keepE, Nat.zero_add, Nat.add_zero, Nat.mul_one, Int.toNat_natCast, toNat_sub1, toNat_add1, decide_true, decide_false, Bool.not_true, Bool.not_false, if_true, if_false, Bool.false_eq_true, reduceCtorEq, hm]
        exact hkk _ _ _ ⟨rfl, rfl, rfl⟩
      | true =>
        simp (disch := omega) only [r_ln, r_pick, r_pickT, r_pickF, r_condT, r_condF, r_gdTT, r_gdFF, r_gdTF, r_gdFT, r_gqTT, r_gqFF, r_gqTF, r_gqFT, r_not, r_lss, r_leq, r_gtr, r_geq, r_eql, r_neq, r_add, r_sub, r_min2, r_max2, r_min3, r_max3, r_fa, r_iaS, r_iaA, r_ex2a, r_ex2b, r_ex3a, r_ex3b, r_ex3c, r_nc, r_keepE, Nat.zero_add, Nat.add_zero, Nat.mul_one, Int.toNat_natCast, toNat_sub1, toNat_add1, decide_true, decide_false, Bool.not_true, Bool.not_false, if_true, if_false, Bool.false_eq_true, reduceCtorEq, hm]
        refine hkk _ _ _ ⟨?_, rfl, rfl⟩
        congr 1
        rw [Bool.true_and, decide_eq_decide]
        omega
  rintro _ _ _ ⟨rfl, rfl, rfl⟩
  generalize hs1 : stE l B W y x s = s1 at *
  refine r_drew fun x4 y4 _ => ?_
  have k4 := Kp.trans k3 y4
  have h154 := block_below h153 y4
  have cS : x4.cell? ⟨b15, 2, none⟩ = some (.int .i64 (tS (tl l n0))) := by rw [cell_row h154]; rfl
  obtain ⟨_, _, _, qb2, qo2, _, ep2, pc2, qc2⟩ := (hb.below k4).cell2 (y := (y + 1) % B.length) (x := x) hy2 (by omega)
  cases ep2
  rw [e2] at qc2
  obtain ⟨_, _, _, et2, _, tN2, _⟩ := RdT.tile (hr.kp k4) l2'
  cases et2
  simp (disch := omega) only [r_ln, r_pick, r_pickT, r_pickF, r_condT, r_condF, r_gdTT, r_gdFF, r_gdTF, r_gdFT, r_gqTT, r_gqFF, r_gqTF, r_gqFT, r_not, r_lss, r_leq, r_gtr, r_geq, r_eql, r_neq, r_add, r_sub, r_min2, r_max2, r_min3, r_max3, r_fa, r_iaS, r_iaA, r_ex2a, r_ex2b, r_ex3a, r_ex3b, r_ex3c, r_nc, r_keepE, Nat.zero_add, Nat.add_zero, Nat.mul_one, Int.toNat_natCast, toNat_sub1, toNat_add1, decide_true, decide_false, Bool.not_true, Bool.not_false, if_true, if_false, Bool.false_eq_true, reduceCtorEq, r_ld cS, r_ld pc2, ey1, r_remN, r_ld qc2, r_ld tN2]
  refine r_join2 (fun p q w' => p = .bool (stS l B B.length y x s1).1 ∧ q = .bool (stS l B B.length y x s1).2 ∧ x4 = w') ?_ ?_
  rotate_left
  · intro kk hkk
    unfold stS at hkk
    rw [a0, a2] at hkk
    by_cases hm : tS (tl l n0) = tN (tl l n2)
    · rw [if_pos hm] at hkk
      simp (disch := omega) only [r_ln, r_pick, r_pickT, r_pickF, r_condT, r_condF, r_gdTT, r_gdFF, r_gdTF, r_gdFT, r_gqTT, r_gqFF, r_gqTF, r_gqFT, r_not, r_lss, r_leq, r_gtr, r_geq, r_eql, r_neq, r_add, r_sub, r_min2, r_max2, r_min3, r_max3, r_fa, r_iaS, r_iaA, r_ex2a, r_ex2b, r_ex3a, r_ex3b, r_ex3c, r_nc, r_keepE, Nat.zero_add, Nat.add_zero, Nat.mul_one, Int.toNat_natCast, toNat_sub1, toNat_add1, decide_true, decide_false, Bool.not_true, Bool.not_false, if_true, if_false, Bool.false_eq_true, reduceCtorEq, decide_eq_true hm]
      exact hkk _ _ _ ⟨rfl, rfl, rfl⟩
    · rw [if_neg hm] at hkk
      obtain ⟨g, c⟩ := s1
      cases g with
      | false =>
        simp (disch := omega) only [r_ln, r_pick, r_pickT, r_pickF, r_condT, r_condF, r_gdTT, r_gdFF, r_gdTF, r_gdFT, r_gqTT, r_gqFF, r_gqTF, r_gqFT, r_not, r_lss, r_leq, r_gtr, r_geq, r_eql, r_neq, r_add, r_sub, r_min2, r_max2, r_min3, r_max3, r_fa, r_iaS, r_iaA, r_ex2a, r_ex2b, r_ex3a, r_ex3b, r_ex3c, r_nc, r_keepE, Nat.zero_add, Nat.add_zero, Nat.mul_one, Int.toNat_natCast, toNat_sub1, toNat_add1, decide_true, decide_false, Bool.not_true, Bool.not_false, if_true, if_false, Bool.false_eq_true, reduceCtorEq, hm]
        exact hkk _ _ _ ⟨rfl, rfl, rfl⟩
      | true =>
        simp (disch := omega) only [r_ln, r_pick, r_pickT, r_pickF, r_condT, r_condF, r_gdTT, r_gdFF, r_gdTF, r_gdFT, r_gqTT, r_gqFF, r_gqTF, r_gqFT, r_not, r_lss, r_leq, r_gtr, r_geq, r_eql, r_neq, r_add, r_sub, r_min2, r_max2, r_min3, r_max3, r_fa, r_iaS, r_iaA, r_ex2a, r_ex2b, r_ex3a, r_ex3b, r_ex3c, r_nc, r_keepE, Nat.zero_add, Nat.add_zero, Nat.mul_one, Int.toNat_natCast, toNat_sub1, toNat_add1, decide_true, decide_false, Bool.not_true, Bool.not_false, if_true, if_false, Bool.false_eq_true, reduceCtorEq, hm]
        refine hkk _ _ _ ⟨?_, rfl, rfl⟩
        congr 1
        rw [Bool.true_and, decide_eq_decide]
        omega
  rintro _ _ _ ⟨rfl, rfl, rfl⟩
  try simp (disch := omega) only [r_ln, r_pick, r_pickT, r_pickF, r_condT, r_condF, r_gdTT, r_gdFF, r_gdTF, r_gdFT, r_gqTT, r_gqFF, r_gqTF, r_gqFT, r_not, r_lss, r_leq, r_gtr, r_geq, r_eql, r_neq, r_add, r_sub, r_min2, r_max2, r_min3, r_max3, r_fa, r_iaS, r_iaA, r_ex2a, r_ex2b, r_ex3a, r_ex3b, r_ex3c, r_nc, r_keepE, Nat.zero_add, Nat.add_zero, Nat.mul_one, Int.toNat_natCast, toNat_sub1, toNat_add1, decide_true, decide_false, Bool.not_true, Bool.not_false, if_true, if_false, Bool.false_eq_true, reduceCtorEq]
  have hcell : cellF l B W B.length y s x = stS l B B.length y x s1 := by rw [cellF, hs1]
  refine ⟨⟨x + 1, by omega, by first | rfl | go_num, by rw [hsx, hcell], by rw [hsx, hcell], Kp.trans kq (Kp.trans (Kp.trans y2 y3) y4)⟩, by simp only [intOf]; omega⟩

end Go.Proofs.Ytgalbokmgffhkaa

/- Contract: Good of the program. -/
namespace Go.Proofs.Ytgalbokmgffhkaa
open Go.Lf Go.RowKit Go.Wg

/-- The test of Good: no place of the set. -/
theorem nocell_call {l : List Tile} {b2 : Nat} {a : Option Addr} {cap : Nat} (w : World) (h2 : w.heap[b2]? = some (.cells #[.slice a l.length cap] 22 (0, 0))) (x : Int) (w' : World) (hk : Kp w w') (K : Value → World → Prop) (h : ∀ w'', Kp w' w'' → K (.bool (!cellOk l x)) w'') :
    callW Try.prog (.func (.func 67) #[] #[.pointer (some ⟨b2, 0, none⟩)]) [.int .i64 x] w' K := by
  have hc : Calls Try.prog 67 #[.int .i64 x, .pointer (some ⟨b2, 0, none⟩)] w' fun e w'' => e = .returned (.bool (!cellOk l x)) ∧ w' = w'' := by
    refine lift67 ?_
    unfold S67
    have c2 : w'.cell? ⟨b2, 0, none⟩ = some (.slice a l.length cap) := by rw [cell_row (block_below h2 hk)]; rfl
    by_cases h0 : x < 0
    · simp only [r_ln, r_pick, r_pickT, r_pickF, r_condT, r_condF, r_gdTT, r_gdFF, r_gdTF, r_gdFT, r_gqTT, r_gqFF, r_gqTF, r_gqFT, r_not, r_lss, r_leq, r_gtr, r_geq, r_eql, r_neq, r_add, r_sub, r_min2, r_max2, r_min3, r_max3, r_fa, r_iaS, r_iaA, r_ex2a, r_ex2b, r_ex3a, r_ex3b, r_ex3c, r_nc, r_keepE, Nat.zero_add, Nat.add_zero, Nat.mul_one, Int.toNat_natCast, toNat_sub1, toNat_add1, decide_true, decide_false, Bool.not_true, Bool.not_false, if_true, if_false, Bool.false_eq_true, reduceCtorEq, decide_eq_true h0]
      exact ⟨ret_bool (by simp only [cellOk]; rw [decide_eq_false (by omega)]; rfl), by first | rfl | trivial⟩
    · simp only [r_ln, r_pick, r_pickT, r_pickF, r_condT, r_condF, r_gdTT, r_gdFF, r_gdTF, r_gdFT, r_gqTT, r_gqFF, r_gqTF, r_gqFT, r_not, r_lss, r_leq, r_gtr, r_geq, r_eql, r_neq, r_add, r_sub, r_min2, r_max2, r_min3, r_max3, r_fa, r_iaS, r_iaA, r_ex2a, r_ex2b, r_ex3a, r_ex3b, r_ex3c, r_nc, r_keepE, Nat.zero_add, Nat.add_zero, Nat.mul_one, Int.toNat_natCast, toNat_sub1, toNat_add1, decide_true, decide_false, Bool.not_true, Bool.not_false, if_true, if_false, Bool.false_eq_true, reduceCtorEq, h0, r_ld c2]
      refine ⟨ret_bool ?_, by first | rfl | trivial⟩
      simp only [cellOk]
      rw [decide_eq_true (show 0 ≤ x by omega), Bool.true_and]
      by_cases h1 : x < (l.length : Int)
      · rw [decide_eq_true h1, decide_eq_false (by omega)]; rfl
      · rw [decide_eq_false h1, decide_eq_true (by omega)]; rfl
  refine r_use fok67 hc rfl ?_
  rintro _ _ ⟨rfl, rfl⟩
  exact ⟨_, rfl, h w' (Kp.refl _)⟩

theorem r_txC {X : Nat → Prop} {w : World} {b o : Nat} {t : Tile} {K : Value → Prop} (h : ∀ j u, (tlC t)[j]? = some u → w.cell? ⟨b, o + j, none⟩ = some u) (hx : ¬ X b) : takeX X w (fun w k => ldN 4 w (.pointer (some ⟨b, o, none⟩)) k) K = K (tlV t) :=
  propext ⟨fun ⟨u, hu, hk⟩ => (by have := hu w (BX.refl _ _); dsimp only at this; rw [r_ldCells (n := 4) (l := tlC t) rfl h] at this; have e : tlV t = u := this; rw [e]; exact hk), fun hk => ⟨tlV t, fun w' hw' => by dsimp only; rw [r_ldCells (n := 4) (l := tlC t) rfl fun j u hj => hw'.cell (h j u hj) hx]; rfl, hk⟩⟩

theorem any_cell (l : List Tile) (r : List Int) : (r.any fun x => !cellOk l x) = !(r.all (cellOk l)) := by
  induction r with
  | nil => rfl
  | cons x r ih => simp [ih]

set_option maxRecDepth 100000 in
set_option maxHeartbeats 1000000 in
theorem good_calls {v bv : Value} {l : List Tile} {B : List (List Int)} (w : World) (hr : RdT w v l) (hb : RdRows w bv B) (hll : l.length ≤ 1000) : Calls Try.prog 21 #[v, bv] w fun e w' => e = .returned (goodV l B) ∧ Kp w w' := by
  obtain ⟨ba, bcap, rfl, hbl⟩ := hb.len
  obtain ⟨va, vcap, rfl, hvc⟩ := hr.len
  refine lift21 ?_
  unfold S21
  refine r_box fun bS w0 eS sS hS k0 => ?_
  have h2' : w0.heap[bS]? = some (.cells #[.slice va l.length vcap] 22 (0, 0)) := hS
  have c2 : w0.cell? ⟨bS, 0, none⟩ = some (.slice va l.length vcap) := by rw [cell_row h2']; rfl
  rw [r_ld c2]
  refine r_use fok65 (valid_calls w0 (hr.kp k0)) rfl ?_
  rintro _ w1 ⟨rfl, k01⟩
  refine ⟨_, rfl, ?_⟩
  have k1 := Kp.trans k0 k01
  have h21 := block_below h2' k01
  cases b1 : setB l with
  | false =>
    simp (disch := omega) only [r_ln, r_pick, r_pickT, r_pickF, r_condT, r_condF, r_gdTT, r_gdFF, r_gdTF, r_gdFT, r_gqTT, r_gqFF, r_gqTF, r_gqFT, r_not, r_lss, r_leq, r_gtr, r_geq, r_eql, r_neq, r_add, r_sub, r_min2, r_max2, r_min3, r_max3, r_fa, r_iaS, r_iaA, r_ex2a, r_ex2b, r_ex3a, r_ex3b, r_ex3c, r_nc, r_keepE, Nat.zero_add, Nat.add_zero, Nat.mul_one, Int.toNat_natCast, toNat_sub1, toNat_add1, decide_true, decide_false, Bool.not_true, Bool.not_false, if_true, if_false, Bool.false_eq_true, reduceCtorEq]
    exact ⟨by rw [goodV_bad (by simp [boardB, b1])], k1⟩
  | true =>
  simp (disch := omega) only [r_ln, r_pick, r_pickT, r_pickF, r_condT, r_condF, r_gdTT, r_gdFF, r_gdTF, r_gdFT, r_gqTT, r_gqFF, r_gqTF, r_gqFT, r_not, r_lss, r_leq, r_gtr, r_geq, r_eql, r_neq, r_add, r_sub, r_min2, r_max2, r_min3, r_max3, r_fa, r_iaS, r_iaA, r_ex2a, r_ex2b, r_ex3a, r_ex3b, r_ex3c, r_nc, r_keepE, Nat.zero_add, Nat.add_zero, Nat.mul_one, Int.toNat_natCast, toNat_sub1, toNat_add1, decide_true, decide_false, Bool.not_true, Bool.not_false, if_true, if_false, Bool.false_eq_true, reduceCtorEq]
  refine r_use fok66 (side_calls _ w1) rfl ?_
  rintro _ _ ⟨rfl, rfl⟩
  refine ⟨_, rfl, ?_⟩
  cases b2 : sideB (B.length : Int) with
  | false =>
    simp (disch := omega) only [r_ln, r_pick, r_pickT, r_pickF, r_condT, r_condF, r_gdTT, r_gdFF, r_gdTF, r_gdFT, r_gqTT, r_gqFF, r_gqTF, r_gqFT, r_not, r_lss, r_leq, r_gtr, r_geq, r_eql, r_neq, r_add, r_sub, r_min2, r_max2, r_min3, r_max3, r_fa, r_iaS, r_iaA, r_ex2a, r_ex2b, r_ex3a, r_ex3b, r_ex3c, r_nc, r_keepE, Nat.zero_add, Nat.add_zero, Nat.mul_one, Int.toNat_natCast, toNat_sub1, toNat_add1, decide_true, decide_false, Bool.not_true, Bool.not_false, if_true, if_false, Bool.false_eq_true, reduceCtorEq]
    exact ⟨by rw [goodV_bad (by simp [boardB, b2])], k1⟩
  | true =>
  have hH : 1 ≤ B.length ∧ B.length ≤ 4 := by simp only [sideB, decide_eq_true_eq] at b2; omega
  obtain ⟨ob, oo, _, rv, eo, oc, orow⟩ := (hb.below k1).row (i := 0) (by omega)
  cases eo
  obtain ⟨ra, rcap, rfl, hrl⟩ := orow.len
  rw [Nat.add_zero] at oc
  have i0 : (0 : Int).toNat = 0 := rfl
  simp (disch := omega) only [r_ln, r_pick, r_pickT, r_pickF, r_condT, r_condF, r_gdTT, r_gdFF, r_gdTF, r_gdFT, r_gqTT, r_gqFF, r_gqTF, r_gqFT, r_not, r_lss, r_leq, r_gtr, r_geq, r_eql, r_neq, r_add, r_sub, r_min2, r_max2, r_min3, r_max3, r_fa, r_iaS, r_iaA, r_ex2a, r_ex2b, r_ex3a, r_ex3b, r_ex3c, r_nc, r_keepE, Nat.zero_add, Nat.add_zero, Nat.mul_one, Int.toNat_natCast, toNat_sub1, toNat_add1, decide_true, decide_false, Bool.not_true, Bool.not_false, if_true, if_false, Bool.false_eq_true, reduceCtorEq, i0, Nat.zero_mul, r_ld oc]
  refine r_use fok66 (side_calls _ w1) rfl ?_
  rintro _ _ ⟨rfl, rfl⟩
  refine ⟨_, rfl, ?_⟩
  cases b3 : sideB ((B.getD 0 []).length : Int) with
  | false =>
    simp (disch := omega) only [r_ln, r_pick, r_pickT, r_pickF, r_condT, r_condF, r_gdTT, r_gdFF, r_gdTF, r_gdFT, r_gqTT, r_gqFF, r_gqTF, r_gqFT, r_not, r_lss, r_leq, r_gtr, r_geq, r_eql, r_neq, r_add, r_sub, r_min2, r_max2, r_min3, r_max3, r_fa, r_iaS, r_iaA, r_ex2a, r_ex2b, r_ex3a, r_ex3b, r_ex3c, r_nc, r_keepE, Nat.zero_add, Nat.add_zero, Nat.mul_one, Int.toNat_natCast, toNat_sub1, toNat_add1, decide_true, decide_false, Bool.not_true, Bool.not_false, if_true, if_false, Bool.false_eq_true, reduceCtorEq]
    exact ⟨by rw [goodV_bad (by simp only [boardB, b3, Bool.and_false, Bool.false_and])], k1⟩
  | true =>
  have hW : 1 ≤ (B.getD 0 []).length ∧ (B.getD 0 []).length ≤ 4 := by simp only [sideB, decide_eq_true_eq] at b3; omega
  simp (disch := omega) only [r_ln, r_pick, r_pickT, r_pickF, r_condT, r_condF, r_gdTT, r_gdFF, r_gdTF, r_gdFT, r_gqTT, r_gqFF, r_gqTF, r_gqFT, r_not, r_lss, r_leq, r_gtr, r_geq, r_eql, r_neq, r_add, r_sub, r_min2, r_max2, r_min3, r_max3, r_fa, r_iaS, r_iaA, r_ex2a, r_ex2b, r_ex3a, r_ex3b, r_ex3c, r_nc, r_keepE, Nat.zero_add, Nat.add_zero, Nat.mul_one, Int.toNat_natCast, toNat_sub1, toNat_add1, decide_true, decide_false, Bool.not_true, Bool.not_false, if_true, if_false, Bool.false_eq_true, reduceCtorEq, i0, Nat.zero_mul, r_ld oc]
  have bad : ∀ i, i < B.length → boardRow l (B.getD 0 []).length (B.getD i []) = false → goodV l B = .tuple #[.bool false, .bool false, .int .i64 2] := fun i hi h => by
    refine goodV_bad ?_
    cases hB : boardB l B with
    | false => rfl
    | true =>
      simp only [boardB, Bool.and_eq_true] at hB
      have := List.all_eq_true.1 hB.2 _ (getD_mem (d := []) hi)
      rw [h] at this; cases this
  generalize hWe : (B.getD 0 []).length = W at *
  refine ⟨fun t9 wr => ∃ i : Nat, i ≤ B.length ∧ t9 = .int .i64 i ∧ (∀ k, k < i → boardRow l W (B.getD k []) = true) ∧ Kp w1 wr, fun t9 _ => B.length - (intOf t9).toNat, ⟨0, by omega, rfl, fun k hk => absurd hk (by omega), Kp.refl _⟩, ?_⟩
  rintro _ _ wi ⟨i, hi, rfl, hok, kwi⟩
  have k1i := Kp.trans k1 kwi
  have h2i := block_below h21 kwi
  by_cases hlt : i < B.length
  case pos =>
    have hlt' : (i : Int) < (B.length : Int) := by omega
    obtain ⟨pb, po, _, rv, ep, pc, prow⟩ := (hb.below k1i).row hlt
    cases ep
    obtain ⟨qa, qcap, rfl, hql⟩ := prow.len
    by_cases hlen : ((B.getD i []).length : Int) = (W : Int)
    case neg =>
      simp (disch := omega) only [r_ln, r_pick, r_pickT, r_pickF, r_condT, r_condF, r_gdTT, r_gdFF, r_gdTF, r_gdFT, r_gqTT, r_gqFF, r_gqTF, r_gqFT, r_not, r_lss, r_leq, r_gtr, r_geq, r_eql, r_neq, r_add, r_sub, r_min2, r_max2, r_min3, r_max3, r_fa, r_iaS, r_iaA, r_ex2a, r_ex2b, r_ex3a, r_ex3b, r_ex3c, r_nc, r_keepE, Nat.zero_add, Nat.add_zero, Nat.mul_one, Int.toNat_natCast, toNat_sub1, toNat_add1, decide_true, decide_false, Bool.not_true, Bool.not_false, if_true, if_false, Bool.false_eq_true, reduceCtorEq, decide_eq_true hlt', r_ld pc, hlen]
      exact ⟨by rw [bad i hlt (by simp only [boardRow]; rw [decide_eq_false (by omega)]; rfl)], k1i⟩
    simp (disch := omega) only [r_ln, r_pick, r_pickT, r_pickF, r_condT, r_condF, r_gdTT, r_gdFF, r_gdTF, r_gdFT, r_gqTT, r_gqFF, r_gqTF, r_gqFT, r_not, r_lss, r_leq, r_gtr, r_geq, r_eql, r_neq, r_add, r_sub, r_min2, r_max2, r_min3, r_max3, r_fa, r_iaS, r_iaA, r_ex2a, r_ex2b, r_ex3a, r_ex3b, r_ex3c, r_nc, r_keepE, Nat.zero_add, Nat.add_zero, Nat.mul_one, Int.toNat_natCast, toNat_sub1, toNat_add1, decide_true, decide_false, Bool.not_true, Bool.not_false, if_true, if_false, Bool.false_eq_true, reduceCtorEq, decide_eq_true hlt', r_ld pc, decide_eq_true hlen]
    refine r_use fok54 (containsF_calls (fun x => !cellOk l x) wi prow fun x _ w' K hkk hK => nocell_call wi h2i x w' hkk K hK) rfl ?_
    rintro _ wj ⟨rfl, kwj⟩
    refine ⟨_, rfl, ?_⟩
    rw [any_cell]
    cases hcall : (B.getD i []).all (cellOk l) with
    | false =>
      simp (disch := omega) only [r_ln, r_pick, r_pickT, r_pickF, r_condT, r_condF, r_gdTT, r_gdFF, r_gdTF, r_gdFT, r_gqTT, r_gqFF, r_gqTF, r_gqFT, r_not, r_lss, r_leq, r_gtr, r_geq, r_eql, r_neq, r_add, r_sub, r_min2, r_max2, r_min3, r_max3, r_fa, r_iaS, r_iaA, r_ex2a, r_ex2b, r_ex3a, r_ex3b, r_ex3c, r_nc, r_keepE, Nat.zero_add, Nat.add_zero, Nat.mul_one, Int.toNat_natCast, toNat_sub1, toNat_add1, decide_true, decide_false, Bool.not_true, Bool.not_false, if_true, if_false, Bool.false_eq_true, reduceCtorEq]
      exact ⟨by rw [bad i hlt (by simp only [boardRow, hcall, Bool.and_false])], Kp.trans k1i kwj⟩
    | true =>
      simp (disch := omega) only [r_ln, r_pick, r_pickT, r_pickF, r_condT, r_condF, r_gdTT, r_gdFF, r_gdTF, r_gdFT, r_gqTT, r_gqFF, r_gqTF, r_gqFT, r_not, r_lss, r_leq, r_gtr, r_geq, r_eql, r_neq, r_add, r_sub, r_min2, r_max2, r_min3, r_max3, r_fa, r_iaS, r_iaA, r_ex2a, r_ex2b, r_ex3a, r_ex3b, r_ex3c, r_nc, r_keepE, Nat.zero_add, Nat.add_zero, Nat.mul_one, Int.toNat_natCast, toNat_sub1, toNat_add1, decide_true, decide_false, Bool.not_true, Bool.not_false, if_true, if_false, Bool.false_eq_true, reduceCtorEq]
      refine ⟨⟨i + 1, by omega, by go_num, fun k hk => ?_, Kp.trans kwi kwj⟩, by simp only [intOf]; omega⟩
      by_cases hki : k < i
      · exact hok k hki
      · have : k = i := by omega
        subst this
        simp only [boardRow, hcall, Bool.and_true, decide_eq_true_eq]
        omega
  have hlt' : ¬ (i : Int) < (B.length : Int) := by omega
  have hall : B.all (boardRow l W) = true := List.all_eq_true.2 fun r hr => by
    obtain ⟨q, hq, rfl⟩ := List.getElem_of_mem hr
    have := hok q (by omega)
    rwa [getD_lt _ _ _ hq] at this
  simp (disch := omega) only [r_ln, r_pick, r_pickT, r_pickF, r_condT, r_condF, r_gdTT, r_gdFF, r_gdTF, r_gdFT, r_gqTT, r_gqFF, r_gqTF, r_gqFT, r_not, r_lss, r_leq, r_gtr, r_geq, r_eql, r_neq, r_add, r_sub, r_min2, r_max2, r_min3, r_max3, r_fa, r_iaS, r_iaA, r_ex2a, r_ex2b, r_ex3a, r_ex3b, r_ex3c, r_nc, r_keepE, Nat.zero_add, Nat.add_zero, Nat.mul_one, Int.toNat_natCast, toNat_sub1, toNat_add1, decide_true, decide_false, Bool.not_true, Bool.not_false, if_true, if_false, Bool.false_eq_true, reduceCtorEq, hlt']
  have hgv : goodV l B = .tuple #[.bool (judge l B W B.length).1, .bool (judge l B W B.length).2, .int .i64 0] := by
    have hB : boardB l B = true := by simp only [boardB, b1, b2, hWe, b3, hall, Bool.and_self]
    unfold goodV
    rw [hB, hWe]; rfl
  rw [hgv]
  have hle := judge_le l B W B.length
  have hrow := fun y hy => board_row (l := l) (B := B) (by rw [hWe]; exact hall) (y := y) hy
  rw [hWe] at hrow
  refine ⟨fun t11 t12 t13 wr => ∃ y : Nat, y ≤ B.length ∧ t13 = .int .i64 y ∧ t11 = .bool ((List.range y).foldl (rowF l B W B.length) (true, true)).1 ∧ t12 = .bool ((List.range y).foldl (rowF l B W B.length) (true, true)).2 ∧ Kp w1 wr, fun _ _ t13 _ => B.length - (intOf t13).toNat,
    ⟨0, by omega, rfl, rfl, rfl, kwi⟩, ?_⟩
  rintro _ _ _ _ wr ⟨y, hy, rfl, rfl, rfl, kr⟩
  by_cases hyl : y < B.length
  case neg =>
    have hyl' : ¬ (y : Int) < (B.length : Int) := by omega
    have ey : y = B.length := by omega
    subst ey
    rw [judge_rows] at hle ⊢
    simp (disch := omega) only [r_ln, r_pick, r_pickT, r_pickF, r_condT, r_condF, r_gdTT, r_gdFF, r_gdTF, r_gdFT, r_gqTT, r_gqFF, r_gqTF, r_gqFT, r_not, r_lss, r_leq, r_gtr, r_geq, r_eql, r_neq, r_add, r_sub, r_min2, r_max2, r_min3, r_max3, r_fa, r_iaS, r_iaA, r_ex2a, r_ex2b, r_ex3a, r_ex3b, r_ex3c, r_nc, r_keepE, Nat.zero_add, Nat.add_zero, Nat.mul_one, Int.toNat_natCast, toNat_sub1, toNat_add1, decide_true, decide_false, Bool.not_true, Bool.not_false, if_true, if_false, Bool.false_eq_true, reduceCtorEq, hyl']
    exact ⟨by first | rfl | trivial, Kp.trans k1 kr⟩
  have hyl' : (y : Int) < (B.length : Int) := by omega
  obtain ⟨yb, yo, _, yv, ey0, yc, yrow⟩ := (hb.below (Kp.trans k1 kr)).row hyl
  cases ey0
  obtain ⟨lr1, hc1⟩ := hrow y hyl
  obtain ⟨ya, ycap, rfl, _⟩ := yrow.len
  rw [lr1] at yc
  simp (disch := omega) only [r_ln, r_pick, r_pickT, r_pickF, r_condT, r_condF, r_gdTT, r_gdFF, r_gdTF, r_gdFT, r_gqTT, r_gqFF, r_gqTF, r_gqFT, r_not, r_lss, r_leq, r_gtr, r_geq, r_eql, r_neq, r_add, r_sub, r_min2, r_max2, r_min3, r_max3, r_fa, r_iaS, r_iaA, r_ex2a, r_ex2b, r_ex3a, r_ex3b, r_ex3c, r_nc, r_keepE, Nat.zero_add, Nat.add_zero, Nat.mul_one, Int.toNat_natCast, toNat_sub1, toNat_add1, decide_true, decide_false, Bool.not_true, Bool.not_false, if_true, if_false, Bool.false_eq_true, reduceCtorEq, decide_eq_true hyl', r_ld yc]
  have hsy : (List.range (y + 1)).foldl (rowF l B W B.length) (true, true) = rowF l B W B.length ((List.range y).foldl (rowF l B W B.length) (true, true)) y := by
    rw [List.range_succ, List.foldl_append]; rfl
  generalize (List.range y).foldl (rowF l B W B.length) (true, true) = s0 at *
  refine ⟨fun t11 t12 t14 wq => ∃ x : Nat, x ≤ W ∧ t14 = .int .i64 x ∧ t11 = .bool ((List.range x).foldl (cellF l B W B.length y) s0).1 ∧ t12 = .bool ((List.range x).foldl (cellF l B W B.length y) s0).2 ∧ Kp wr wq, fun _ _ t14 _ => W - (intOf t14).toNat,
    ⟨0, by omega, rfl, rfl, rfl, Kp.refl _⟩, ?_⟩
  rintro _ _ _ _ wq ⟨x, hx, rfl, rfl, rfl, kq⟩
  by_cases hxl : x < W
  case neg =>
    have hxl' : ¬ (x : Int) < (W : Int) := by omega
    have ex : x = W := by omega
    subst ex
    simp (disch := omega) only [r_ln, r_pick, r_pickT, r_pickF, r_condT, r_condF, r_gdTT, r_gdFF, r_gdTF, r_gdFT, r_gqTT, r_gqFF, r_gqTF, r_gqFT, r_not, r_lss, r_leq, r_gtr, r_geq, r_eql, r_neq, r_add, r_sub, r_min2, r_max2, r_min3, r_max3, r_fa, r_iaS, r_iaA, r_ex2a, r_ex2b, r_ex3a, r_ex3b, r_ex3c, r_nc, r_keepE, Nat.zero_add, Nat.add_zero, Nat.mul_one, Int.toNat_natCast, toNat_sub1, toNat_add1, decide_true, decide_false, Bool.not_true, Bool.not_false, if_true, if_false, Bool.false_eq_true, reduceCtorEq, hxl']
    exact ⟨⟨y + 1, by omega, by go_num, by rw [hsy]; rfl, by rw [hsy]; rfl, Kp.trans kr kq⟩, by simp only [intOf]; omega⟩
  have hxl' : (x : Int) < (W : Int) := by omega
  have hsx : (List.range (x + 1)).foldl (cellF l B W B.length y) s0 = cellF l B W B.length y ((List.range x).foldl (cellF l B W B.length y) s0) x := by
    rw [List.range_succ, List.foldl_append]; rfl
  generalize (List.range x).foldl (cellF l B W B.length y) s0 = s at *
  have hx2 : (x + 1) % W < W := Nat.mod_lt _ (by omega)
  have hy2 : (y + 1) % B.length < B.length := Nat.mod_lt _ (by omega)
  obtain ⟨n0, e0, l0⟩ := hc1 x hxl
  obtain ⟨n1, e1, l1'⟩ := hc1 _ hx2
  obtain ⟨lr2, hc2⟩ := hrow _ hy2
  obtain ⟨n2, e2, l2'⟩ := hc2 x hxl
  have a0 : at2 l B y x = tl l n0 := by rw [at2, e0]; rfl
  have a1 : at2 l B y ((x + 1) % W) = tl l n1 := by rw [at2, e1]; rfl
  have a2 : at2 l B ((y + 1) % B.length) x = tl l n2 := by rw [at2, e2]; rfl
  have kwq := Kp.trans k1 (Kp.trans kr kq)
  have yq := yrow.below kq
  obtain ⟨qb, qo, _, eq, qc⟩ := yq.at (j := x) (by omega)
  cases eq
  rw [e0] at qc
  simp (disch := omega) only [r_ln, r_pick, r_pickT, r_pickF, r_condT, r_condF, r_gdTT, r_gdFF, r_gdTF, r_gdFT, r_gqTT, r_gqFF, r_gqTF, r_gqFT, r_not, r_lss, r_leq, r_gtr, r_geq, r_eql, r_neq, r_add, r_sub, r_min2, r_max2, r_min3, r_max3, r_fa, r_iaS, r_iaA, r_ex2a, r_ex2b, r_ex3a, r_ex3b, r_ex3c, r_nc, r_keepE, Nat.zero_add, Nat.add_zero, Nat.mul_one, Int.toNat_natCast, toNat_sub1, toNat_add1, decide_true, decide_false, Bool.not_true, Bool.not_false, if_true, if_false, Bool.false_eq_true, reduceCtorEq, decide_eq_true hxl', r_ld qc]
  refine r_drew fun x2 y2 _ => ?_
  have k2 := Kp.trans kwq y2
  have hS2 : x2.heap[bS]? = some (.cells #[.slice va l.length vcap] 22 (0, 0)) := block_below (block_below h21 (Kp.trans kr kq)) y2
  have cS2 : x2.cell? ⟨bS, 0, none⟩ = some (.slice va l.length vcap) := by rw [cell_row hS2]; rfl
  obtain ⟨_, _, _, eq1, qc1⟩ := (yq.below y2).at (j := (x + 1) % W) (by omega)
  cases eq1
  rw [e1] at qc1
  obtain ⟨_, _, _, qb2, qo2, _, ep2, pc2, qc2⟩ := (hb.below k2).cell2 (y := (y + 1) % B.length) (x := x) hy2 (by omega)
  cases ep2
  rw [e2] at qc2
  obtain ⟨tb, to, _, et1, _, tc1⟩ := (hr.kp k2).at (tl_get l1')
  cases et1
  obtain ⟨_, _, _, et2, _, tc2⟩ := (hr.kp k2).at (tl_get l2')
  cases et2
  have lt1 := World.block_lt_of_cell? x2 _ qc1
  have lt2 := World.block_lt_of_cell? x2 _ pc2
  have lt3 := World.block_lt_of_cell? x2 _ qc2
  have lt4 := World.block_lt_of_cell? x2 _ (tc1 0 _ rfl)
  have lt5 := block_lt hS2
  dsimp only at lt1 lt2 lt3 lt4
  have nX : ∀ b, b < x2.heap.size → ¬ (fun k => x2.heap.size ≤ k) b := fun b hb => by dsimp only; omega
  have ex1 : (x : Int) + 1 = ((x + 1 : Nat) : Int) := by simp
  have ey1 : (y : Int) + 1 = ((y + 1 : Nat) : Int) := by simp
  refine r_join2 (fun p q w' => ∃ b17 b18, p = .pointer (some ⟨b17, 0, none⟩) ∧ q = .pointer (some ⟨b18, 0, none⟩) ∧ Kp x2 w' ∧ w'.heap[b17]? = some (.cells (tlV (tl l n1)).cells 32 (0, 0)) ∧ w'.heap[b18]? = some (.cells (tlV (tl l n2)).cells 32 (0, 0))) ?_ ?_
  rotate_left
  · intro kk hkk
    refine ⟨fun k => x2.heap.size ≤ k, ?_⟩
    simp (disch := omega) only [r_ln, r_pick, r_pickT, r_pickF, r_condT, r_condF, r_gdTT, r_gdFF, r_gdTF, r_gdFT, r_gqTT, r_gqFF, r_gqTF, r_gqFT, r_not, r_lss, r_leq, r_gtr, r_geq, r_eql, r_neq, r_add, r_sub, r_min2, r_max2, r_min3, r_max3, r_fa, r_iaS, r_iaA, r_ex2a, r_ex2b, r_ex3a, r_ex3b, r_ex3c, r_nc, r_keepE, Nat.zero_add, Nat.add_zero, Nat.mul_one, Int.toNat_natCast, toNat_sub1, toNat_add1, decide_true, decide_false, Bool.not_true, Bool.not_false, if_true, if_false, Bool.false_eq_true, reduceCtorEq, r_tx, r_txl (X := fun k => x2.heap.size ≤ k) cS2 (nX _ lt5), ex1, ey1, r_remN, r_txl (X := fun k => x2.heap.size ≤ k) qc1 (nX _ lt1), r_txC (X := fun k => x2.heap.size ≤ k) tc1 (nX _ lt4), r_txl (X := fun k => x2.heap.size ≤ k) pc2 (nX _ lt2), r_txl (X := fun k => x2.heap.size ≤ k) qc2 (nX _ lt3), r_txC (X := fun k => x2.heap.size ≤ k) tc2 (nX _ lt4)]
    refine ⟨?_, ?_, trivial⟩
    · refine r_box fun b17 z5 e5 s5 g5 v5 => ⟨BX.of_below v5, ?_⟩
      refine r_box fun b18 z6 e6 s6 g6 v6 => ⟨BX.of_below v6, ?_⟩
      refine r_stAll (n := 4) (ty := 32) (by kernel_rfl) rfl (by intro u hu; simp [Value.cells] at hu; rcases hu with rfl | rfl | rfl | rfl <;> rfl) (block_below g5 v6) rfl fun z7 c7 s7 g7 => ?_
      refine ⟨BX.of_chg (c7.mono fun k _ e => by omega), ?_⟩
      refine r_stAll (n := 4) (ty := 32) (by kernel_rfl) rfl (by intro u hu; simp [Value.cells] at hu; rcases hu with rfl | rfl | rfl | rfl <;> rfl) (c7.at g6 (by omega)) rfl fun z8 c8 s8 g8 => ?_
      exact hkk _ _ _ ⟨b17, b18, rfl, rfl, Kp.of_chg (Kp.of_chg (Kp.trans v5 v6) c7 fun i e => by omega) c8 fun i e => by omega, c8.at g7 (by omega), g8⟩
    · refine r_box fun b18 z5 e5 s5 g5 v5 => ⟨BX.of_below v5, ?_⟩
      refine r_box fun b17 z6 e6 s6 g6 v6 => ⟨BX.of_below v6, ?_⟩
      refine r_stAll (n := 4) (ty := 32) (by kernel_rfl) rfl (by intro u hu; simp [Value.cells] at hu; rcases hu with rfl | rfl | rfl | rfl <;> rfl) g6 rfl fun z7 c7 s7 g7 => ?_
      refine ⟨BX.of_chg (c7.mono fun k _ e => by omega), ?_⟩
      refine r_stAll (n := 4) (ty := 32) (by kernel_rfl) rfl (by intro u hu; simp [Value.cells] at hu; rcases hu with rfl | rfl | rfl | rfl <;> rfl) (c7.at (block_below g5 v6) (by omega)) rfl fun z8 c8 s8 g8 => ?_
      exact hkk _ _ _ ⟨b17, b18, rfl, rfl, Kp.of_chg (Kp.of_chg (Kp.trans v5 v6) c7 fun i e => by omega) c8 fun i e => by omega, c8.at g7 (by omega), g8⟩
  rintro _ _ z2 ⟨b17, b18, rfl, rfl, v2, g17, g18⟩
  refine r_drew fun x3 y3 _ => ?_
  have k3 := Kp.trans k2 (Kp.trans v2 y3)
  have cS3 := cell_later (Kp.trans v2 y3) cS2
  obtain ⟨_, _, _, et0, _, tc0⟩ := (hr.kp k3).at (tl_get l0)
  cases et0
  have t0E := tc0 1 _ rfl
  have h173 := block_below g17 y3
  have h183 := block_below g18 y3
  have c17 : x3.cell? ⟨b17, 3, none⟩ = some (.int .i64 (tW (tl l n1))) := by rw [cell_row h173]; rfl
  simp (disch := omega) only [r_ln, r_pick, r_pickT, r_pickF, r_condT, r_condF, r_gdTT, r_gdFF, r_gdTF, r_gdFT, r_gqTT, r_gqFF, r_gqTF, r_gqFT, r_not, r_lss, r_leq, r_gtr, r_geq, r_eql, r_neq, r_add, r_sub, r_min2, r_max2, r_min3, r_max3, r_fa, r_iaS, r_iaA, r_ex2a, r_ex2b, r_ex3a, r_ex3b, r_ex3c, r_nc, r_keepE, Nat.zero_add, Nat.add_zero, Nat.mul_one, Int.toNat_natCast, toNat_sub1, toNat_add1, decide_true, decide_false, Bool.not_true, Bool.not_false, if_true, if_false, Bool.false_eq_true, reduceCtorEq, r_ld cS3, r_ld t0E, r_ld c17]
  refine r_join2 (fun p q w' => p = .bool (stE l B W y x s).1 ∧ q = .bool (stE l B W y x s).2 ∧ x3 = w') ?_ ?_
  rotate_left
  · intro kk hkk
    unfold stE at hkk
    rw [a0, a1] at hkk
    by_cases hm : tE (tl l n0) = tW (tl l n1)
    · rw [if_pos hm] at hkk
      simp (disch := omega) only [r_ln, r_pick, r_pickT, r_pickF, r_condT, r_condF, r_gdTT, r_gdFF, r_gdTF, r_gdFT, r_gqTT, r_gqFF, r_gqTF, r_gqFT, r_not, r_lss, r_leq, r_gtr, r_geq, r_eql, r_neq, r_add, r_sub, r_min2, r_max2, r_min3, r_max3, r_fa, r_iaS, r_iaA, r_ex2a, r_ex2b, r_ex3a, r_ex3b, r_ex3c, r_nc, r_keepE, Nat.zero_add, Nat.add_zero, Nat.mul_one, Int.toNat_natCast, toNat_sub1, toNat_add1, decide_true, decide_false, Bool.not_true, Bool.not_false, if_true, if_false, Bool.false_eq_true, reduceCtorEq, decide_eq_true hm]
      exact hkk _ _ _ ⟨rfl, rfl, rfl⟩
    · rw [if_neg hm] at hkk
      obtain ⟨g, c⟩ := s
      cases g with
      | false =>
        simp (disch := omega) only [r_ln, r_pick, r_pickT, r_pickF, r_condT, r_condF, r_gdTT, r_gdFF, r_gdTF, r_gdFT, r_gqTT, r_gqFF, r_gqTF, r_gqFT, r_not, r_lss, r_leq, r_gtr, r_geq, r_eql, r_neq, r_add, r_sub, r_min2, r_max2, r_min3, r_max3, r_fa, r_iaS, r_iaA, r_ex2a, r_ex2b, r_ex3a, r_ex3b, r_ex3c, r_nc, r_keepE, Nat.zero_add, Nat.add_zero, Nat.mul_one, Int.toNat_natCast, toNat_sub1, toNat_add1, decide_true, decide_false, Bool.not_true, Bool.not_false, if_true, if_false, Bool.false_eq_true, reduceCtorEq, hm]
        exact hkk _ _ _ ⟨rfl, rfl, rfl⟩
      | true =>
        simp (disch := omega) only [r_ln, r_pick, r_pickT, r_pickF, r_condT, r_condF, r_gdTT, r_gdFF, r_gdTF, r_gdFT, r_gqTT, r_gqFF, r_gqTF, r_gqFT, r_not, r_lss, r_leq, r_gtr, r_geq, r_eql, r_neq, r_add, r_sub, r_min2, r_max2, r_min3, r_max3, r_fa, r_iaS, r_iaA, r_ex2a, r_ex2b, r_ex3a, r_ex3b, r_ex3c, r_nc, r_keepE, Nat.zero_add, Nat.add_zero, Nat.mul_one, Int.toNat_natCast, toNat_sub1, toNat_add1, decide_true, decide_false, Bool.not_true, Bool.not_false, if_true, if_false, Bool.false_eq_true, reduceCtorEq, hm]
        refine hkk _ _ _ ⟨?_, rfl, rfl⟩
        congr 1
        rw [Bool.true_and, decide_eq_decide]
        omega
  rintro _ _ _ ⟨rfl, rfl, rfl⟩
  generalize hs1 : stE l B W y x s = s1 at *
  refine r_drew fun x4 y4 _ => ?_
  have k4 := Kp.trans k3 y4
  have cS4 := cell_later y4 cS3
  obtain ⟨_, _, _, et0, _, tc0⟩ := (hr.kp k4).at (tl_get l0)
  cases et0
  have t0S := tc0 2 _ rfl
  have h184 := block_below h183 y4
  have c18 : x4.cell? ⟨b18, 0, none⟩ = some (.int .i64 (tN (tl l n2))) := by rw [cell_row h184]; rfl
  simp (disch := omega) only [r_ln, r_pick, r_pickT, r_pickF, r_condT, r_condF, r_gdTT, r_gdFF, r_gdTF, r_gdFT, r_gqTT, r_gqFF, r_gqTF, r_gqFT, r_not, r_lss, r_leq, r_gtr, r_geq, r_eql, r_neq, r_add, r_sub, r_min2, r_max2, r_min3, r_max3, r_fa, r_iaS, r_iaA, r_ex2a, r_ex2b, r_ex3a, r_ex3b, r_ex3c, r_nc, r_keepE, Nat.zero_add, Nat.add_zero, Nat.mul_one, Int.toNat_natCast, toNat_sub1, toNat_add1, decide_true, decide_false, Bool.not_true, Bool.not_false, if_true, if_false, Bool.false_eq_true, reduceCtorEq, r_ld cS4, r_ld t0S, r_ld c18]
  refine r_join2 (fun p q w' => p = .bool (stS l B B.length y x s1).1 ∧ q = .bool (stS l B B.length y x s1).2 ∧ x4 = w') ?_ ?_
  rotate_left
  · intro kk hkk
    unfold stS at hkk
    rw [a0, a2] at hkk
    by_cases hm : tS (tl l n0) = tN (tl l n2)
    · rw [if_pos hm] at hkk
      simp (disch := omega) only [r_ln, r_pick, r_pickT, r_pickF, r_condT, r_condF, r_gdTT, r_gdFF, r_gdTF, r_gdFT, r_gqTT, r_gqFF, r_gqTF, r_gqFT, r_not, r_lss, r_leq, r_gtr, r_geq, r_eql, r_neq, r_add, r_sub, r_min2, r_max2, r_min3, r_max3, r_fa, r_iaS, r_iaA, r_ex2a, r_ex2b, r_ex3a, r_ex3b, r_ex3c, r_nc, r_keepE, Nat.zero_add, Nat.add_zero, Nat.mul_one, Int.toNat_natCast, toNat_sub1, toNat_add1, decide_true, decide_false, Bool.not_true, Bool.not_false, if_true, if_false, Bool.false_eq_true, reduceCtorEq, decide_eq_true hm]
      exact hkk _ _ _ ⟨rfl, rfl, rfl⟩
    · rw [if_neg hm] at hkk
      obtain ⟨g, c⟩ := s1
      cases g with
      | false =>
        simp (disch := omega) only [r_ln, r_pick, r_pickT, r_pickF, r_condT, r_condF, r_gdTT, r_gdFF, r_gdTF, r_gdFT, r_gqTT, r_gqFF, r_gqTF, r_gqFT, r_not, r_lss, r_leq, r_gtr, r_geq, r_eql, r_neq, r_add, r_sub, r_min2, r_max2, r_min3, r_max3, r_fa, r_iaS, r_iaA, r_ex2a, r_ex2b, r_ex3a, r_ex3b, r_ex3c, r_nc, r_keepE, Nat.zero_add, Nat.add_zero, Nat.mul_one, Int.toNat_natCast, toNat_sub1, toNat_add1, decide_true, decide_false, Bool.not_true, Bool.not_false, if_true, if_false, Bool.false_eq_true, reduceCtorEq, hm]
        exact hkk _ _ _ ⟨rfl, rfl, rfl⟩
      | true =>
        simp (disch := omega) only [r_ln, r_pick, r_pickT, r_pickF, r_condT, r_condF, r_gdTT, r_gdFF, r_gdTF, r_gdFT, r_gqTT, r_gqFF, r_gqTF, r_gqFT, r_not, r_lss, r_leq, r_gtr, r_geq, r_eql, r_neq, r_add, r_sub, r_min2, r_max2, r_min3, r_max3, r_fa, r_iaS, r_iaA, r_ex2a, r_ex2b, r_ex3a, r_ex3b, r_ex3c, r_nc, r_keepE, Nat.zero_add, Nat.add_zero, Nat.mul_one, Int.toNat_natCast, toNat_sub1, toNat_add1, decide_true, decide_false, Bool.not_true, Bool.not_false, if_true, if_false, Bool.false_eq_true, reduceCtorEq, hm]
        refine hkk _ _ _ ⟨?_, rfl, rfl⟩
        congr 1
        rw [Bool.true_and, decide_eq_decide]
        omega
  rintro _ _ _ ⟨rfl, rfl, rfl⟩
  try simp (disch := omega) only [r_ln, r_pick, r_pickT, r_pickF, r_condT, r_condF, r_gdTT, r_gdFF, r_gdTF, r_gdFT, r_gqTT, r_gqFF, r_gqTF, r_gqFT, r_not, r_lss, r_leq, r_gtr, r_geq, r_eql, r_neq, r_add, r_sub, r_min2, r_max2, r_min3, r_max3, r_fa, r_iaS, r_iaA, r_ex2a, r_ex2b, r_ex3a, r_ex3b, r_ex3c, r_nc, r_keepE, Nat.zero_add, Nat.add_zero, Nat.mul_one, Int.toNat_natCast, toNat_sub1, toNat_add1, decide_true, decide_false, Bool.not_true, Bool.not_false, if_true, if_false, Bool.false_eq_true, reduceCtorEq]
  have hcell : cellF l B W B.length y s x = stS l B B.length y x s1 := by rw [cellF, hs1]
  refine ⟨⟨x + 1, by omega, by first | rfl | go_num, by rw [hsx, hcell], by rw [hsx, hcell], Kp.trans kq (Kp.trans y2 (Kp.trans v2 (Kp.trans y3 y4)))⟩, by simp only [intOf]; omega⟩

end Go.Proofs.Ytgalbokmgffhkaa

/- Contracts: mirrored; WangTurned. -/
namespace Go.Proofs.Ytgalbokmgffhkaa
open Go.Lf Go.RowKit Go.Wg

set_option maxRecDepth 100000 in
theorem mirrored_calls {v : Value} {l : List Tile} (w : World) (hr : RdT w v l) (hl : l.length ≤ 100000) : Calls Try.prog 47 #[v] w fun e w' => ∃ v', e = .returned v' ∧ TlAt w.heap.size w' v' (l.map mirT) ∧ Kp w w' := by
  obtain ⟨va, vc, ev, _⟩ := hr.len
  have lnv : ∀ K : Value → Prop, ln1 v K = K (.int .i64 l.length) := fun K => by rw [ev]; rfl
  refine lift47 ?_
  unfold S47 S47L0
  refine ⟨fun t3 t4 wr => ∃ i : Nat, i ≤ l.length ∧ t4 = .int .i64 i ∧ TlAt w.heap.size wr t3 ((l.take i).map mirT) ∧ Kp w wr, fun _ t4 _ => l.length - (intOf t4).toNat, ⟨0, by omega, rfl, RecAt.nil, Kp.refl _⟩, ?_⟩
  rintro _ t3 _ wr ⟨i, hi, rfl, hT, kr⟩
  rw [lnv]
  by_cases hlt : i < l.length
  case neg =>
    have hlt' : ¬ (i : Int) < (l.length : Int) := by omega
    rw [List.take_of_length_le (by omega)] at hT
    simp (disch := omega) only [r_ln, r_pick, r_pickT, r_pickF, r_condT, r_condF, r_gdTT, r_gdFF, r_gdTF, r_gdFT, r_gqTT, r_gqFF, r_gqTF, r_gqFT, r_not, r_lss, r_leq, r_gtr, r_geq, r_eql, r_neq, r_add, r_sub, r_min2, r_max2, r_min3, r_max3, r_fa, r_iaS, r_iaA, r_ex2a, r_ex2b, r_ex3a, r_ex3b, r_ex3c, r_nc, r_keepE, Nat.zero_add, Nat.add_zero, Nat.mul_one, Int.toNat_natCast, toNat_sub1, toNat_add1, decide_true, decide_false, Bool.not_true, Bool.not_false, if_true, if_false, Bool.false_eq_true, reduceCtorEq, hlt']
    exact ⟨_, rfl, hT, kr⟩
  have hlt' : (i : Int) < (l.length : Int) := by omega
  simp (disch := omega) only [r_lss, decide_eq_true hlt', r_condT]
  refine r_drew fun w2 k2 _ => ?_
  have kr2 := Kp.trans kr k2
  obtain ⟨b, off, cap, e, _, hcell⟩ := (hr.kp kr2).at (List.getElem?_eq_getElem hlt)
  have hii : (i : Int).toNat = i := by omega
  have ia : ∀ K : Value → Prop, iaS 4 v (.int .i64 i) K = K (.pointer (some ⟨b, off + i * 4, none⟩)) := fun K => by rw [e, r_iaS _ _ _ _ _ _ _ (by omega) (by omega), hii]
  have hst : (l.take (i + 1)).map mirT = (l.take i).map mirT ++ [mirT l[i]] := by rw [take_succ' _ _ hlt, List.map_append]; rfl
  generalize l[i] = t at *
  have c0 : w2.cell? ⟨b, off + i * 4, none⟩ = some (.int .i64 (tN t)) := hcell 0 _ rfl
  have c1 : w2.cell? ⟨b, off + i * 4 + 1, none⟩ = some (.int .i64 (tE t)) := hcell 1 _ rfl
  have c2 : w2.cell? ⟨b, off + i * 4 + 2, none⟩ = some (.int .i64 (tS t)) := hcell 2 _ rfl
  have c3 : w2.cell? ⟨b, off + i * 4 + 3, none⟩ = some (.int .i64 (tW t)) := hcell 3 _ rfl
  have hbd : ∀ K : Value → Prop, bdQ Try.prog 32 [(0, .int .i64 (tN t)), (1, .int .i64 (tW t)), (2, .int .i64 (tS t)), (3, .int .i64 (tE t))] K = K (tlV (mirT t)) := fun K => bdK _ _ _ _ K
  simp (disch := omega) only [ia, r_fa, Nat.add_zero, r_ld c0, r_ld c1, r_ld c2, r_ld c3, hbd]
  have hT2 := hT.kp k2
  refine r_pushKT hT2 (by rw [List.length_map, List.length_take]; omega) kr2.size fun v' w' ho hc => ?_
  rw [r_add _ _ (by omega) (by omega)]
  refine ⟨⟨i + 1, by omega, by go_num, ?_, Kp.of_chg kr2 hc fun k e => (hT2.lt e).1⟩, by simp only [intOf]; omega⟩
  rw [hst]; exact ho


theorem setB_of {l : List Tile} (h : IsSet l) : setB l = true := by
  simp only [setB, freshB, Bool.and_eq_true, decide_eq_true_eq, List.all_eq_true, List.mem_range, Bool.not_eq_true', decide_eq_false_iff_not]
  refine ⟨⟨h.pos, h.most⟩, fun i hi => ⟨h.cols _ (by unfold tl; exact getD_mem hi), fun hm => ?_⟩⟩
  obtain ⟨j, hj, e⟩ := List.mem_take_iff_getElem.1 hm
  unfold tl at e
  rw [getD_lt _ _ _ hi] at e
  have hn := List.pairwise_iff_getElem.1 (List.nodup_iff_pairwise_ne.1 h.nodup) j i (by omega) hi (by omega)
  exact hn e
theorem setB_turn (l : List Tile) : setB (l.map turnT) = setB l := by
  have key : ∀ l : List Tile, setB l = true → setB (l.map turnT) = true := fun l h => setB_of (turned_set (isSet_of h))
  cases h : setB l with
  | true => exact key l h
  | false =>
    cases h2 : setB (l.map turnT) with
    | false => rfl
    | true =>
      have h3 := key _ (key _ (key _ h2))
      have e : (((l.map turnT).map turnT).map turnT).map turnT = l := by
        simp only [List.map_map]
        have : (turnT ∘ turnT ∘ turnT ∘ turnT) = id := rfl
        rw [this, List.map_id]
      rw [e, h] at h3
      cases h3
theorem setB_mir (l : List Tile) : setB (l.map mirT) = setB l := by
  have key : ∀ l : List Tile, setB l = true → setB (l.map mirT) = true := fun l h => setB_of (mir_set (isSet_of h))
  cases h : setB l with
  | true => exact key l h
  | false =>
    cases h2 : setB (l.map mirT) with
    | false => rfl
    | true =>
      have h3 := key _ h2
      have e : (l.map mirT).map mirT = l := by
        simp only [List.map_map]
        have : (mirT ∘ mirT) = id := rfl
        rw [this, List.map_id]
      rw [e, h] at h3
      cases h3
theorem ord_turn (l : List Tile) (a b : Int) : ordErr (l.map turnT) b a = ordErr l a b := by
  unfold ordErr
  rw [setB_turn]
  by_cases h : setB l = true ∧ sideB a = true ∧ sideB b = true
  · rw [if_pos h, if_pos ⟨h.1, h.2.2, h.2.1⟩]
  · rw [if_neg h, if_neg fun g => h ⟨g.1, g.2.2, g.2.1⟩]
theorem ord_mir (l : List Tile) (a b : Int) : ordErr (l.map mirT) a b = ordErr l a b := by
  unfold ordErr
  rw [setB_mir]
theorem count_turn (l : List Tile) (a b : Int) : countV (l.map turnT) b a = countV l a b := by
  unfold countV
  rw [ord_turn]
  rcases ordErr_cases l a b with he | he
  · obtain ⟨hs, W, H, rfl, rfl, hW, hH⟩ := ord_ok he
    rw [if_pos he, if_pos he]
    simp only [Int.toNat_natCast]
    rw [count_exact hs hW (by omega), count_exact (turned_set hs) hH (by omega)]
    rw [show boards (linesL (l.map turnT) H) W = boards (linesL l W) H from turn_boards hs (by omega) (by omega)]
  · rw [if_neg (by omega), if_neg (by omega)]
theorem count_mir (l : List Tile) (a b : Int) : countV (l.map mirT) a b = countV l a b := by
  unfold countV
  rw [ord_mir]
  rcases ordErr_cases l a b with he | he
  · obtain ⟨hs, W, H, rfl, rfl, hW, hH⟩ := ord_ok he
    rw [if_pos he, if_pos he]
    simp only [Int.toNat_natCast]
    rw [count_exact hs hW (by omega), count_exact (mir_set hs) hW (by omega), mir_boards hs (by omega)]
  · rw [if_neg (by omega), if_neg (by omega)]

theorem count_form {l : List Tile} (hs : IsSet l) {W H : Nat} (hW : 1 ≤ W ∧ W ≤ 4) (hH : 1 ≤ H ∧ H ≤ 4) (he : ordErr l W H = 0) : ∃ n e : Int, countV l W H = .tuple #[.int .i64 n, .int .i64 e] ∧ ((e = 0 ∧ n = (boards (linesL l W) H : Nat) ∧ n ≤ 1099511627776) ∨ (e = 8 ∧ n = 0 ∧ 0 < boards (linesL l W) H)) := by
  rw [countV, if_pos he, limV]
  simp only [Int.toNat_natCast]
  rw [count_exact hs hW (by omega)]
  unfold capI
  split
  · exact ⟨_, _, rfl, .inr ⟨rfl, rfl, by omega⟩⟩
  · exact ⟨_, _, rfl, .inl ⟨rfl, by omega, by omega⟩⟩

set_option maxRecDepth 100000 in
set_option maxHeartbeats 1000000 in
theorem turns_calls {v : Value} {l : List Tile} (a b : Int) (wz : World) (hr : RdT wz v l) : Calls Try.prog 13 #[v, .int .i64 a, .int .i64 b] wz fun e w' => e = .returned (.bool true) ∧ Kp wz w' := by
  have hr0 := hr
  obtain ⟨va, vcap, rfl, hvc⟩ := hr.len
  refine lift13 ?_
  unfold S13
  have fin : ∀ (w' : World), Kp wz w' → Calls Try.prog 18 #[] w' fun e w'' => e = .returned (.bool true) ∧ Kp wz w'' := fun w' k => (law_alive w').mono fun e w'' h => ⟨h.1, Kp.trans k h.2⟩
  have ali : ∀ (w' : World), Kp wz w' → callW Try.prog (.func (.func 18) #[] #[]) [] w' fun t w => (Ending.returned t = .returned (.bool true) ∧ Kp wz w) := fun w' k' => by
    refine r_use fok18 (fin w' k') rfl ?_
    rintro _ w2 ⟨rfl, k2⟩
    exact ⟨_, rfl, by first | rfl | trivial, k2⟩
  refine r_use fok31 (light_calls a b wz hr0) rfl ?_
  rintro _ w1 ⟨rfl, k1⟩
  refine ⟨_, rfl, ?_⟩
  by_cases hl : l.length ≤ 40
  case neg =>
    simp (disch := omega) only [r_ln, r_pick, r_pickT, r_pickF, r_condT, r_condF, r_gdTT, r_gdFF, r_gdTF, r_gdFT, r_gqTT, r_gqFF, r_gqTF, r_gqFT, r_not, r_lss, r_leq, r_gtr, r_geq, r_eql, r_neq, r_add, r_sub, r_min2, r_max2, r_min3, r_max3, r_fa, r_iaS, r_iaA, r_ex2a, r_ex2b, r_ex3a, r_ex3b, r_ex3c, r_nc, r_keepE, Nat.zero_add, Nat.add_zero, Nat.mul_one, Int.toNat_natCast, toNat_sub1, toNat_add1, decide_true, decide_false, Bool.not_true, Bool.not_false, if_true, if_false, Bool.false_eq_true, reduceCtorEq, hl]
    exact ali w1 k1
  simp (disch := omega) only [r_ln, r_pick, r_pickT, r_pickF, r_condT, r_condF, r_gdTT, r_gdFF, r_gdTF, r_gdFT, r_gqTT, r_gqFF, r_gqTF, r_gqFT, r_not, r_lss, r_leq, r_gtr, r_geq, r_eql, r_neq, r_add, r_sub, r_min2, r_max2, r_min3, r_max3, r_fa, r_iaS, r_iaA, r_ex2a, r_ex2b, r_ex3a, r_ex3b, r_ex3c, r_nc, r_keepE, Nat.zero_add, Nat.add_zero, Nat.mul_one, Int.toNat_natCast, toNat_sub1, toNat_add1, decide_true, decide_false, Bool.not_true, Bool.not_false, if_true, if_false, Bool.false_eq_true, reduceCtorEq, decide_eq_true hl]
  refine r_use fok25 (count_calls a b w1 (hr0.kp k1)) rfl ?_
  rintro _ w2 ⟨rfl, k2⟩
  refine ⟨_, rfl, ?_⟩
  have k02 := Kp.trans k1 k2
  obtain ⟨n, e, hcv⟩ := countV_form l a b
  rw [hcv]
  simp (disch := omega) only [r_ln, r_pick, r_pickT, r_pickF, r_condT, r_condF, r_gdTT, r_gdFF, r_gdTF, r_gdFT, r_gqTT, r_gqFF, r_gqTF, r_gqFT, r_not, r_lss, r_leq, r_gtr, r_geq, r_eql, r_neq, r_add, r_sub, r_min2, r_max2, r_min3, r_max3, r_fa, r_iaS, r_iaA, r_ex2a, r_ex2b, r_ex3a, r_ex3b, r_ex3c, r_nc, r_keepE, Nat.zero_add, Nat.add_zero, Nat.mul_one, Int.toNat_natCast, toNat_sub1, toNat_add1, decide_true, decide_false, Bool.not_true, Bool.not_false, if_true, if_false, Bool.false_eq_true, reduceCtorEq]
  refine r_use fok46 (turned_calls w2 (hr0.kp k02) (by omega)) rfl ?_
  rintro _ w3 ⟨tv, rfl, ot, k3⟩
  refine ⟨_, rfl, ?_⟩
  have k03 := Kp.trans k02 k3
  refine r_use fok25 (count_calls b a w3 (ot.rd tlC_len)) rfl ?_
  rintro _ w4 ⟨rfl, k4⟩
  refine ⟨_, rfl, ?_⟩
  have k04 := Kp.trans k03 k4
  rw [count_turn, hcv]
  simp (disch := omega) only [r_ln, r_pick, r_pickT, r_pickF, r_condT, r_condF, r_gdTT, r_gdFF, r_gdTF, r_gdFT, r_gqTT, r_gqFF, r_gqTF, r_gqFT, r_not, r_lss, r_leq, r_gtr, r_geq, r_eql, r_neq, r_add, r_sub, r_min2, r_max2, r_min3, r_max3, r_fa, r_iaS, r_iaA, r_ex2a, r_ex2b, r_ex3a, r_ex3b, r_ex3c, r_nc, r_keepE, Nat.zero_add, Nat.add_zero, Nat.mul_one, Int.toNat_natCast, toNat_sub1, toNat_add1, decide_true, decide_false, Bool.not_true, Bool.not_false, if_true, if_false, Bool.false_eq_true, reduceCtorEq]
  refine r_use fok47 (mirrored_calls w4 (hr0.kp k04) (by omega)) rfl ?_
  rintro _ w5 ⟨mv, rfl, om, k5⟩
  refine ⟨_, rfl, ?_⟩
  have k05 := Kp.trans k04 k5
  refine r_use fok25 (count_calls a b w5 (om.rd tlC_len)) rfl ?_
  rintro _ w6 ⟨rfl, k6⟩
  refine ⟨_, rfl, ?_⟩
  have k06 := Kp.trans k05 k6
  have hself : ∀ x : Int, decide (x = x) = true := fun x => decide_eq_true rfl
  rw [count_mir, hcv]
  simp (disch := omega) only [r_ln, r_pick, r_pickT, r_pickF, r_condT, r_condF, r_gdTT, r_gdFF, r_gdTF, r_gdFT, r_gqTT, r_gqFF, r_gqTF, r_gqFT, r_not, r_lss, r_leq, r_gtr, r_geq, r_eql, r_neq, r_add, r_sub, r_min2, r_max2, r_min3, r_max3, r_fa, r_iaS, r_iaA, r_ex2a, r_ex2b, r_ex3a, r_ex3b, r_ex3c, r_nc, r_keepE, Nat.zero_add, Nat.add_zero, Nat.mul_one, Int.toNat_natCast, toNat_sub1, toNat_add1, decide_true, decide_false, Bool.not_true, Bool.not_false, if_true, if_false, Bool.false_eq_true, reduceCtorEq, hself, r_gdU]
  refine r_use fok27 (fill_calls a b w6 (hr0.kp k06)) rfl ?_
  rintro _ w7 ⟨k7, p7⟩
  obtain ⟨v7, rfl, r7⟩ := p7.form
  refine ⟨_, rfl, ?_⟩
  have k07 := Kp.trans k06 k7
  simp (disch := omega) only [r_ln, r_pick, r_pickT, r_pickF, r_condT, r_condF, r_gdTT, r_gdFF, r_gdTF, r_gdFT, r_gqTT, r_gqFF, r_gqTF, r_gqFT, r_not, r_lss, r_leq, r_gtr, r_geq, r_eql, r_neq, r_add, r_sub, r_min2, r_max2, r_min3, r_max3, r_fa, r_iaS, r_iaA, r_ex2a, r_ex2b, r_ex3a, r_ex3b, r_ex3c, r_nc, r_keepE, Nat.zero_add, Nat.add_zero, Nat.mul_one, Int.toNat_natCast, toNat_sub1, toNat_add1, decide_true, decide_false, Bool.not_true, Bool.not_false, if_true, if_false, Bool.false_eq_true, reduceCtorEq]
  have h20 : decide ((2 : Int) = 0) = false := by decide
  have h28 : decide ((2 : Int) = 8) = false := by decide
  have h00 : decide ((0 : Int) = 0) = true := rfl
  have h80 : decide ((8 : Int) = 0) = false := by decide
  have h88 : decide ((8 : Int) = 8) = true := rfl
  have h100 : decide ((10 : Int) = 0) = false := by decide
  have h1010 : decide ((10 : Int) = 10) = true := rfl
  have h08 : decide ((0 : Int) = 8) = false := by decide
  rcases ordErr_cases l a b with he | he
  rotate_left
  · have e2 : e = 2 := by
      rw [countV, if_neg (by omega)] at hcv
      injection hcv with h
      simp at h
      exact h.2.symm
    have f2 : fillE l a b = 2 := by rw [fillE, if_neg (by omega)]
    rw [e2, f2]
    simp (disch := omega) only [r_ln, r_pick, r_pickT, r_pickF, r_condT, r_condF, r_gdTT, r_gdFF, r_gdTF, r_gdFT, r_gqTT, r_gqFF, r_gqTF, r_gqFT, r_not, r_lss, r_leq, r_gtr, r_geq, r_eql, r_neq, r_add, r_sub, r_min2, r_max2, r_min3, r_max3, r_fa, r_iaS, r_iaA, r_ex2a, r_ex2b, r_ex3a, r_ex3b, r_ex3c, r_nc, r_keepE, Nat.zero_add, Nat.add_zero, Nat.mul_one, Int.toNat_natCast, toNat_sub1, toNat_add1, decide_true, decide_false, Bool.not_true, Bool.not_false, if_true, if_false, Bool.false_eq_true, reduceCtorEq, h20, h28, hself, r_gdU]
    refine r_use fok18 (fin w7 k07) rfl ?_
    rintro _ w8 ⟨rfl, k8⟩
    refine ⟨_, rfl, ?_⟩
    simp (disch := omega) only [r_ln, r_pick, r_pickT, r_pickF, r_condT, r_condF, r_gdTT, r_gdFF, r_gdTF, r_gdFT, r_gqTT, r_gqFF, r_gqTF, r_gqFT, r_not, r_lss, r_leq, r_gtr, r_geq, r_eql, r_neq, r_add, r_sub, r_min2, r_max2, r_min3, r_max3, r_fa, r_iaS, r_iaA, r_ex2a, r_ex2b, r_ex3a, r_ex3b, r_ex3c, r_nc, r_keepE, Nat.zero_add, Nat.add_zero, Nat.mul_one, Int.toNat_natCast, toNat_sub1, toNat_add1, decide_true, decide_false, Bool.not_true, Bool.not_false, if_true, if_false, Bool.false_eq_true, reduceCtorEq]
    exact ⟨by first | rfl | trivial, k8⟩
  obtain ⟨hs, W, H, rfl, rfl, hW, hH⟩ := ord_ok he
  have hset := setB_of hs
  obtain ⟨n', e', hcv', hne⟩ := count_form hs hW hH he
  rw [hcv] at hcv'
  injection hcv' with hcv'
  simp at hcv'
  obtain ⟨rfl, rfl⟩ := hcv'
  have closedF : ∃ c g : Int, closeV l W H = .tuple #[.int .i64 c, .int .i64 g] ∧ (e = 0 → g = 0 ∧ c ≤ n) := by
    rw [closeV, if_pos he, limV]
    simp only [Int.toNat_natCast]
    have hrl : closedV l W H ≤ capI (boards (linesL l W) H) := by
      have hL : LnOk (8 ^ W) (closedL (linesL l W)) := fun x hx => lines_ok hs hW.2 x (List.mem_filter.1 hx).1
      rw [← closed_both hs hW (by omega), closed_exact hL (by omega)]
      have := round_le (L := linesL l W) (h := H)
      unfold capI
      omega
    unfold capI at hrl
    split
    · exact ⟨_, _, rfl, fun h => by rcases hne with ⟨_, h1, h2⟩ | ⟨h1, _⟩ <;> omega⟩
    · exact ⟨_, _, rfl, fun h => ⟨rfl, by rcases hne with ⟨_, h1, h2⟩ | ⟨h1, _⟩ <;> omega⟩⟩
  obtain ⟨c, g, hcl, hcg⟩ := closedF
  -- what comes behind the board
  have rest : ∀ (w8 : World), Kp wz w8 →
      callW Try.prog (.func (.func 24) #[] #[]) [.slice va l.length vcap, .int .i64 W] w8 fun t132_2 w =>
      binQ Try.prog w .gtr 3 true t132_2 (.int .i64 512) fun t133_2 =>
      condW t133_2 (
        callW Try.prog (.func (.func 18) #[] #[]) [] w fun t134_2 w =>
        (Ending.returned t134_2 = .returned (.bool true) ∧ Kp wz w)
      ) (
        callW Try.prog (.func (.func 33) #[] #[]) [.slice va l.length vcap, .int .i64 W, .int .i64 H] w fun t139_2 w =>
        exQ t139_2 0 fun t140_2 =>
        exQ t139_2 1 fun t141_2 =>
        binQ Try.prog w .eql 26 true (.int .i64 e) (.int .i64 8) fun t143_2 =>
        gd t143_2 false (fun k => k t141_2 w) w fun t145_2 w =>
        gd t143_2 false (fun k => binQ Try.prog w .eql 26 true t145_2 (.int .i64 0) fun v => k v w) w fun t146_2 w =>
        gd t143_2 false (fun k => k t146_2 w) w fun t147_2 w =>
        gd t147_2 true (fun k => k t140_2 w) w fun t148_2 w =>
        gd t147_2 true (fun k => k (.int .i64 n) w) w fun t149_2 w =>
        gd t147_2 true (fun k => binQ Try.prog w .leq 3 false t148_2 t149_2 fun v => k v w) w fun t150_2 w =>
        gd t143_2 false (fun k => pickQ t147_2 t150_2 (.bool false) fun v => k v w) w fun t151_2 w =>
        pickQ t143_2 (.bool true) t151_2 fun t152_2 =>
        gd t152_2 true (fun k => callW Try.prog (.func (.func 18) #[] #[]) [] w k) w fun t154_2 w =>
        pickQ t152_2 t154_2 (.bool false) fun t155_2 =>
        (Ending.returned t155_2 = .returned (.bool true) ∧ Kp wz w)
      ) := fun w8 k8 => by
    refine r_use fok24 (states_calls w8 (hr0.kp k8) hs hW.2) rfl ?_
    rintro _ w9 ⟨rfl, k9⟩
    refine ⟨_, rfl, ?_⟩
    have k09 := Kp.trans k8 k9
    by_cases hg : (512 : Int) < ((allS l W : Nat) : Int)
    · simp (disch := omega) only [r_ln, r_pick, r_pickT, r_pickF, r_condT, r_condF, r_gdTT, r_gdFF, r_gdTF, r_gdFT, r_gqTT, r_gqFF, r_gqTF, r_gqFT, r_not, r_lss, r_leq, r_gtr, r_geq, r_eql, r_neq, r_add, r_sub, r_min2, r_max2, r_min3, r_max3, r_fa, r_iaS, r_iaA, r_ex2a, r_ex2b, r_ex3a, r_ex3b, r_ex3c, r_nc, r_keepE, Nat.zero_add, Nat.add_zero, Nat.mul_one, Int.toNat_natCast, toNat_sub1, toNat_add1, decide_true, decide_false, Bool.not_true, Bool.not_false, if_true, if_false, Bool.false_eq_true, reduceCtorEq, decide_eq_true hg]
      exact ali w9 k09
    simp (disch := omega) only [r_ln, r_pick, r_pickT, r_pickF, r_condT, r_condF, r_gdTT, r_gdFF, r_gdTF, r_gdFT, r_gqTT, r_gqFF, r_gqTF, r_gqFT, r_not, r_lss, r_leq, r_gtr, r_geq, r_eql, r_neq, r_add, r_sub, r_min2, r_max2, r_min3, r_max3, r_fa, r_iaS, r_iaA, r_ex2a, r_ex2b, r_ex3a, r_ex3b, r_ex3c, r_nc, r_keepE, Nat.zero_add, Nat.add_zero, Nat.mul_one, Int.toNat_natCast, toNat_sub1, toNat_add1, decide_true, decide_false, Bool.not_true, Bool.not_false, if_true, if_false, Bool.false_eq_true, reduceCtorEq, hg]
    refine r_use fok33 (closed_calls (W : Int) (H : Int) w9 (hr0.kp k09)) rfl ?_
    rintro _ w10 ⟨rfl, k10⟩
    refine ⟨_, rfl, ?_⟩
    have k010 := Kp.trans k09 k10
    rw [hcl]
    have go : callW Try.prog (.func (.func 18) #[] #[]) [] w10 fun t w => pickQ (.bool true) t (.bool false) fun t155_2 => (Ending.returned t155_2 = .returned (.bool true) ∧ Kp wz w) := by
      refine r_use fok18 (fin w10 k010) rfl ?_
      rintro _ w11 ⟨rfl, k11⟩
      refine ⟨_, rfl, ?_⟩
      simp (disch := omega) only [r_ln, r_pick, r_pickT, r_pickF, r_condT, r_condF, r_gdTT, r_gdFF, r_gdTF, r_gdFT, r_gqTT, r_gqFF, r_gqTF, r_gqFT, r_not, r_lss, r_leq, r_gtr, r_geq, r_eql, r_neq, r_add, r_sub, r_min2, r_max2, r_min3, r_max3, r_fa, r_iaS, r_iaA, r_ex2a, r_ex2b, r_ex3a, r_ex3b, r_ex3c, r_nc, r_keepE, Nat.zero_add, Nat.add_zero, Nat.mul_one, Int.toNat_natCast, toNat_sub1, toNat_add1, decide_true, decide_false, Bool.not_true, Bool.not_false, if_true, if_false, Bool.false_eq_true, reduceCtorEq]
      exact ⟨by first | rfl | trivial, k11⟩
    rcases hne with ⟨rfl, h1, h2⟩ | ⟨rfl, _, _⟩
    · obtain ⟨rfl, hcn⟩ := hcg rfl
      simp (disch := omega) only [r_ln, r_pick, r_pickT, r_pickF, r_condT, r_condF, r_gdTT, r_gdFF, r_gdTF, r_gdFT, r_gqTT, r_gqFF, r_gqTF, r_gqFT, r_not, r_lss, r_leq, r_gtr, r_geq, r_eql, r_neq, r_add, r_sub, r_min2, r_max2, r_min3, r_max3, r_fa, r_iaS, r_iaA, r_ex2a, r_ex2b, r_ex3a, r_ex3b, r_ex3c, r_nc, r_keepE, Nat.zero_add, Nat.add_zero, Nat.mul_one, Int.toNat_natCast, toNat_sub1, toNat_add1, decide_true, decide_false, Bool.not_true, Bool.not_false, if_true, if_false, Bool.false_eq_true, reduceCtorEq, h08, h00, decide_eq_true hcn, r_gdU]
      have := go
      simp (disch := omega) only [r_pickT] at this
      exact this
    · simp (disch := omega) only [r_ln, r_pick, r_pickT, r_pickF, r_condT, r_condF, r_gdTT, r_gdFF, r_gdTF, r_gdFT, r_gqTT, r_gqFF, r_gqTF, r_gqFT, r_not, r_lss, r_leq, r_gtr, r_geq, r_eql, r_neq, r_add, r_sub, r_min2, r_max2, r_min3, r_max3, r_fa, r_iaS, r_iaA, r_ex2a, r_ex2b, r_ex3a, r_ex3b, r_ex3c, r_nc, r_keepE, Nat.zero_add, Nat.add_zero, Nat.mul_one, Int.toNat_natCast, toNat_sub1, toNat_add1, decide_true, decide_false, Bool.not_true, Bool.not_false, if_true, if_false, Bool.false_eq_true, reduceCtorEq, h88, r_gdU]
      have := go
      simp (disch := omega) only [r_pickT] at this
      exact this
  by_cases hbd : 0 < boards (linesL l W) H
  · -- there is a board
    have f0 := fillE_pos hs (by omega) (by omega) he hbd
    obtain ⟨B, hB⟩ : ∃ B, fillM l W H (-1) = some B := by
      cases hM : fillM l W H (-1) with
      | none =>
        have hn := (fill_all hs (w := W) (h := H) (by omega) (by omega)).1
        rw [ways_boards hs (by omega) (by omega)] at hn
        have := hn.2 hM
        omega
      | some B => exact ⟨B, rfl⟩
    have hIs := fill_isB hs (by omega) hB
    obtain ⟨cb, hgood⟩ := isB_good hIs (by omega) (by omega) hset hW.2 hH.2
    have hR : fillR l W H = B.map intsR := by
      rw [fillR, if_pos he]
      simp only [Int.toNat_natCast]
      rw [hB]; rfl
    rw [hR] at r7
    have hBl : (B.map intsR).length = H := by rw [List.length_map, hIs.len]
    have hBr : ∀ r ∈ B.map intsR, r.length = W := fun r hr => by
      obtain ⟨q, hq, rfl⟩ := List.mem_map.1 hr
      obtain ⟨y, hy, rfl⟩ := List.getElem_of_mem hq
      have := hIs.row y (by have := hIs.len; omega)
      rw [getD_lt _ _ _ hy] at this
      simp [intsR, this]
    have rd7 : RdRows w7 v7 (B.map intsR) := r7.rd (by omega) fun r hr => by rw [hBr r hr]; omega
    rw [f0]
    have hp : n > 0 ∧ e = 0 ∨ e = 8 ∧ n = 0 := by rcases hne with ⟨h1, h2, _⟩ | ⟨h1, h2, _⟩ <;> omega
    have board : ∀ k2' : World → Prop, (∀ w', Kp wz w' → k2' w') → callW Try.prog (.func (.func 21) #[] #[]) [.slice va l.length vcap, v7] w7 fun t106 w =>
          exQ t106 0 fun t107 =>
          exQ t106 1 fun t108 =>
          exQ t106 2 fun t109 =>
          binQ Try.prog w .neq 26 true t109 (.int .i64 0) fun t111 =>
          gd t111 false (fun k => k t107 w) w fun t113 w =>
          gd t111 false (fun k => unQ .not t113 fun v => k v w) w fun t114 w =>
          pickQ t111 (.bool true) t114 fun t115 =>
          gd t115 false (fun k => k v7 w) w fun t117 w =>
          gd t115 false (fun k => ln1 t117 fun v => k v w) w fun t118 w =>
          gd t115 false (fun k => k (.int .i64 H) w) w fun t119 w =>
          gd t115 false (fun k => binQ Try.prog w .neq 3 false t118 t119 fun v => k v w) w fun t120 w =>
          pickQ t115 (.bool true) t120 fun t121 =>
          gd t121 false (fun k => k v7 w) w fun t123 w =>
          gd t121 false (fun k => iaS 1 t123 (.int .i64 0) fun v => k v w) w fun t124 w =>
          gd t121 false (fun k => ld1 w t124 fun v => k v w) w fun t125 w =>
          gd t121 false (fun k => ln1 t125 fun v => k v w) w fun t126 w =>
          gd t121 false (fun k => k (.int .i64 W) w) w fun t127 w =>
          gd t121 false (fun k => binQ Try.prog w .neq 3 false t126 t127 fun v => k v w) w fun t128 w =>
          pickQ t121 (.bool true) t128 fun t129 => condW t129 (Ending.returned (.bool false) = .returned (.bool true) ∧ Kp wz w) (k2' w) := by
      intro k2' hk2
      refine r_use fok21 (good_calls w7 (hr0.kp k07) rd7 (by omega)) rfl ?_
      rintro _ w8 ⟨rfl, k8⟩
      refine ⟨_, rfl, ?_⟩
      rw [hgood]
      obtain ⟨rb, ro, rcap, ru, erv, rcell, hru⟩ := (rd7.below k8).row (i := 0) (by omega)
      obtain ⟨ua, uc, eru, _⟩ := hru.len
      have hr0l : ((B.map intsR).getD 0 []).length = W := hBr _ (getD_mem (by omega))
      rw [hr0l] at eru
      rw [hBl] at erv
      rw [erv]
      rw [eru, Nat.add_zero] at rcell
      have h0 : (0 : Int).toNat = 0 := rfl
      simp (disch := omega) only [r_ln, r_pick, r_pickT, r_pickF, r_condT, r_condF, r_gdTT, r_gdFF, r_gdTF, r_gdFT, r_gqTT, r_gqFF, r_gqTF, r_gqFT, r_not, r_lss, r_leq, r_gtr, r_geq, r_eql, r_neq, r_add, r_sub, r_min2, r_max2, r_min3, r_max3, r_fa, r_iaS, r_iaA, r_ex2a, r_ex2b, r_ex3a, r_ex3b, r_ex3c, r_nc, r_keepE, Nat.zero_add, Nat.add_zero, Nat.mul_one, Int.toNat_natCast, toNat_sub1, toNat_add1, decide_true, decide_false, Bool.not_true, Bool.not_false, if_true, if_false, Bool.false_eq_true, reduceCtorEq, h00, hself, h0, r_ld rcell, r_gdU]
      exact hk2 _ (Kp.trans k07 k8)
    rcases hp with ⟨h1, rfl⟩ | ⟨rfl, rfl⟩
    · simp (disch := omega) only [r_ln, r_pick, r_pickT, r_pickF, r_condT, r_condF, r_gdTT, r_gdFF, r_gdTF, r_gdFT, r_gqTT, r_gqFF, r_gqTF, r_gqFT, r_not, r_lss, r_leq, r_gtr, r_geq, r_eql, r_neq, r_add, r_sub, r_min2, r_max2, r_min3, r_max3, r_fa, r_iaS, r_iaA, r_ex2a, r_ex2b, r_ex3a, r_ex3b, r_ex3c, r_nc, r_keepE, Nat.zero_add, Nat.add_zero, Nat.mul_one, Int.toNat_natCast, toNat_sub1, toNat_add1, decide_true, decide_false, Bool.not_true, Bool.not_false, if_true, if_false, Bool.false_eq_true, reduceCtorEq, h00, h08, decide_eq_true h1, r_gdU]
      refine r_neB ?_
      simp (disch := omega) only [bne_self_eq_false, r_ln, r_pick, r_pickT, r_pickF, r_condT, r_condF, r_gdTT, r_gdFF, r_gdTF, r_gdFT, r_gqTT, r_gqFF, r_gqTF, r_gqFT, r_not, r_lss, r_leq, r_gtr, r_geq, r_eql, r_neq, r_add, r_sub, r_min2, r_max2, r_min3, r_max3, r_fa, r_iaS, r_iaA, r_ex2a, r_ex2b, r_ex3a, r_ex3b, r_ex3c, r_nc, r_keepE, Nat.zero_add, Nat.add_zero, Nat.mul_one, Int.toNat_natCast, toNat_sub1, toNat_add1, decide_true, decide_false, Bool.not_true, Bool.not_false, if_true, if_false, Bool.false_eq_true, reduceCtorEq, h00, h08, r_gdU]
      refine r_join0 (fun w' => Kp wz w') ?_ fun k2' hk2 => ?_
      · intro w8 k8
        have := rest w8 k8
        simp (disch := omega) only [r_ln, r_pick, r_pickT, r_pickF, r_condT, r_condF, r_gdTT, r_gdFF, r_gdTF, r_gdFT, r_gqTT, r_gqFF, r_gqTF, r_gqFT, r_not, r_lss, r_leq, r_gtr, r_geq, r_eql, r_neq, r_add, r_sub, r_min2, r_max2, r_min3, r_max3, r_fa, r_iaS, r_iaA, r_ex2a, r_ex2b, r_ex3a, r_ex3b, r_ex3c, r_nc, r_keepE, Nat.zero_add, Nat.add_zero, Nat.mul_one, Int.toNat_natCast, toNat_sub1, toNat_add1, decide_true, decide_false, Bool.not_true, Bool.not_false, if_true, if_false, Bool.false_eq_true, reduceCtorEq, h00, h08, r_gdU] at this
        exact this
      · exact board k2' hk2
    · have h0 : decide ((0 : Int) < 0) = false := by decide
      simp (disch := omega) only [r_ln, r_pick, r_pickT, r_pickF, r_condT, r_condF, r_gdTT, r_gdFF, r_gdTF, r_gdFT, r_gqTT, r_gqFF, r_gqTF, r_gqFT, r_not, r_lss, r_leq, r_gtr, r_geq, r_eql, r_neq, r_add, r_sub, r_min2, r_max2, r_min3, r_max3, r_fa, r_iaS, r_iaA, r_ex2a, r_ex2b, r_ex3a, r_ex3b, r_ex3c, r_nc, r_keepE, Nat.zero_add, Nat.add_zero, Nat.mul_one, Int.toNat_natCast, toNat_sub1, toNat_add1, decide_true, decide_false, Bool.not_true, Bool.not_false, if_true, if_false, Bool.false_eq_true, reduceCtorEq, h00, h08, h80, h88, h0, r_gdU]
      refine r_neB ?_
      simp (disch := omega) only [bne_self_eq_false, r_ln, r_pick, r_pickT, r_pickF, r_condT, r_condF, r_gdTT, r_gdFF, r_gdTF, r_gdFT, r_gqTT, r_gqFF, r_gqTF, r_gqFT, r_not, r_lss, r_leq, r_gtr, r_geq, r_eql, r_neq, r_add, r_sub, r_min2, r_max2, r_min3, r_max3, r_fa, r_iaS, r_iaA, r_ex2a, r_ex2b, r_ex3a, r_ex3b, r_ex3c, r_nc, r_keepE, Nat.zero_add, Nat.add_zero, Nat.mul_one, Int.toNat_natCast, toNat_sub1, toNat_add1, decide_true, decide_false, Bool.not_true, Bool.not_false, if_true, if_false, Bool.false_eq_true, reduceCtorEq, h00, h08, h80, h88, r_gdU]
      refine r_join0 (fun w' => Kp wz w') ?_ fun k2' hk2 => ?_
      · intro w8 k8
        have := rest w8 k8
        simp (disch := omega) only [r_ln, r_pick, r_pickT, r_pickF, r_condT, r_condF, r_gdTT, r_gdFF, r_gdTF, r_gdFT, r_gqTT, r_gqFF, r_gqTF, r_gqFT, r_not, r_lss, r_leq, r_gtr, r_geq, r_eql, r_neq, r_add, r_sub, r_min2, r_max2, r_min3, r_max3, r_fa, r_iaS, r_iaA, r_ex2a, r_ex2b, r_ex3a, r_ex3b, r_ex3c, r_nc, r_keepE, Nat.zero_add, Nat.add_zero, Nat.mul_one, Int.toNat_natCast, toNat_sub1, toNat_add1, decide_true, decide_false, Bool.not_true, Bool.not_false, if_true, if_false, Bool.false_eq_true, reduceCtorEq, h00, h08, h80, h88, r_gdU] at this
        exact this
      · exact board k2' hk2
  · have hb0 : boards (linesL l W) H = 0 := by omega
    have f10 := fillE_zero hs (by omega) (by omega) he hb0
    rw [f10]
    obtain ⟨rfl, rfl⟩ : e = 0 ∧ n = 0 := by rcases hne with ⟨h1, h2, _⟩ | ⟨h1, h2, _⟩ <;> omega
    have h0 : decide ((0 : Int) < 0) = false := by decide
    simp (disch := omega) only [r_ln, r_pick, r_pickT, r_pickF, r_condT, r_condF, r_gdTT, r_gdFF, r_gdTF, r_gdFT, r_gqTT, r_gqFF, r_gqTF, r_gqFT, r_not, r_lss, r_leq, r_gtr, r_geq, r_eql, r_neq, r_add, r_sub, r_min2, r_max2, r_min3, r_max3, r_fa, r_iaS, r_iaA, r_ex2a, r_ex2b, r_ex3a, r_ex3b, r_ex3c, r_nc, r_keepE, Nat.zero_add, Nat.add_zero, Nat.mul_one, Int.toNat_natCast, toNat_sub1, toNat_add1, decide_true, decide_false, Bool.not_true, Bool.not_false, if_true, if_false, Bool.false_eq_true, reduceCtorEq, h00, h08, h100, h1010, h0, r_gdU]
    refine r_neB ?_
    simp (disch := omega) only [bne_self_eq_false, r_ln, r_pick, r_pickT, r_pickF, r_condT, r_condF, r_gdTT, r_gdFF, r_gdTF, r_gdFT, r_gqTT, r_gqFF, r_gqTF, r_gqFT, r_not, r_lss, r_leq, r_gtr, r_geq, r_eql, r_neq, r_add, r_sub, r_min2, r_max2, r_min3, r_max3, r_fa, r_iaS, r_iaA, r_ex2a, r_ex2b, r_ex3a, r_ex3b, r_ex3c, r_nc, r_keepE, Nat.zero_add, Nat.add_zero, Nat.mul_one, Int.toNat_natCast, toNat_sub1, toNat_add1, decide_true, decide_false, Bool.not_true, Bool.not_false, if_true, if_false, Bool.false_eq_true, reduceCtorEq, h00, h08, h100, h1010, r_gdU]
    refine r_join0 (fun w' => Kp wz w') ?_ fun k2' hk2 => ?_
    · intro w8 k8
      have := rest w8 k8
      simp (disch := omega) only [r_ln, r_pick, r_pickT, r_pickF, r_condT, r_condF, r_gdTT, r_gdFF, r_gdTF, r_gdFT, r_gqTT, r_gqFF, r_gqTF, r_gqFT, r_not, r_lss, r_leq, r_gtr, r_geq, r_eql, r_neq, r_add, r_sub, r_min2, r_max2, r_min3, r_max3, r_fa, r_iaS, r_iaA, r_ex2a, r_ex2b, r_ex3a, r_ex3b, r_ex3c, r_nc, r_keepE, Nat.zero_add, Nat.add_zero, Nat.mul_one, Int.toNat_natCast, toNat_sub1, toNat_add1, decide_true, decide_false, Bool.not_true, Bool.not_false, if_true, if_false, Bool.false_eq_true, reduceCtorEq, h00, h08, r_gdU] at this
      exact this
    · exact hk2 _ k07

end Go.Proofs.Ytgalbokmgffhkaa
