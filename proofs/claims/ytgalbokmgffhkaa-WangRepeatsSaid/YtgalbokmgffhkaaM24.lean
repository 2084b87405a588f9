/- Texts of my own, merged by program: C4 N10 E2. -/
import Derived.Test.YtgalbokmgffhkaaM23
import Derived.Test.YtgalbokmgffhkaaM21
import Derived.Test.YtgalbokmgffhkaaM22
import Derived.Test.YtgalbokmgffhkaaM00
import Derived.Test.YtgalbokmgffhkaaM08
set_option linter.all false
/- Contract: Good of the program. -/
namespace Go.Proofs.Ytgalbokmgffhkaa
open Go.Lf Go.RowKit Go.Wg

/-- The test of Good: no place of the set. -/
theorem nocell_call {l : List Tile} {b2 : Nat} {a : Option Addr} {cap : Nat} (w : World) (h2 : w.heap[b2]? = some (.cells #[.slice a l.length cap] 22 (0, 0))) (x : Int) (w' : World) (hk : Kp w w') (K : Value → World → Prop) (h : ∀ w'', Kp w' w'' → K (.bool (!cellOk l x)) w'') :
    callW Try.prog (.func (.func 67) #[] #[.pointer (some ⟨b2, 0, none⟩)]) [.int .i64 x] w' K := by
  have hc : Calls Try.prog 67 #[.int .i64 x, .pointer (some ⟨b2, 0, none⟩)] w' fun e w'' => e = .returned (.bool (!cellOk l x)) ∧ w' = w'' := by
    refine lift67 ?_
    unfold S67
    have c2 : w'.cell? ⟨b2, 0, none⟩ = some (.slice a l.length cap) := by rw [cell_row (block_below h2 hk)]; rfl
    by_cases h0 : x < 0
    · simp only [r_ln, r_pick, r_pickT, r_pickF, r_condT, r_condF, r_gdTT, r_gdFF, r_gdTF, r_gdFT, r_gqTT, r_gqFF, r_gqTF, r_gqFT, r_not, r_lss, r_leq, r_gtr, r_geq, r_eql, r_neq, r_add, r_sub, r_min2, r_max2, r_min3, r_max3, r_fa, r_iaS, r_iaA, r_ex2a, r_ex2b, r_ex3a, r_ex3b, r_ex3c, r_nc, r_keepE, Nat.zero_add, Nat.add_zero, Nat.mul_one, Int.toNat_natCast, toNat_sub1, toNat_add1, decide_true, decide_false, Bool.not_true, Bool.not_false, if_true, if_false, Bool.false_eq_true, reduceCtorEq, decide_eq_true h0]
      exact ⟨ret_bool (by simp only [cellOk]; rw [decide_eq_false (by omega)]; rfl), by first | rfl | trivial⟩
    · simp only [r_ln, r_pick, r_pickT, r_pickF, r_condT, r_condF, r_gdTT, r_gdFF, r_gdTF, r_gdFT, r_gqTT, r_gqFF, r_gqTF, r_gqFT, r_not, r_lss, r_leq, r_gtr, r_geq, r_eql, r_neq, r_add, r_sub, r_min2, r_max2, r_min3, r_max3, r_fa, r_iaS, r_iaA, r_ex2a, r_ex2b, r_ex3a, r_ex3b, r_ex3c, r_nc, r_keepE, Nat.zero_add, Nat.add_zero, Nat.mul_one, Int.toNat_natCast, toNat_sub1, toNat_add1, decide_true, decide_false, Bool.not_true, Bool.not_false, if_true, if_false, Bool.false_eq_true, reduceCtorEq, h0, r_ld c2]
      refine ⟨ret_bool ?_, by first | rfl | trivial⟩
      simp only [cellOk]
      rw [decide_eq_true (show 0 ≤ x by omega), Bool.true_and]
      by_cases h1 : x < (l.length : Int)
      · rw [decide_eq_true h1, decide_eq_false (by omega)]; rfl
      · rw [decide_eq_false h1, decide_eq_true (by omega)]; rfl
  refine r_use fok67 hc rfl ?_
  rintro _ _ ⟨rfl, rfl⟩
  exact ⟨_, rfl, h w' (Kp.refl _)⟩

theorem r_txC {X : Nat → Prop} {w : World} {b o : Nat} {t : Tile} {K : Value → Prop} (h : ∀ j u, (tlC t)[j]? = some u → w.cell? ⟨b, o + j, none⟩ = some u) (hx : ¬ X b) : takeX X w (fun w k => ldN 4 w (.pointer (some ⟨b, o, none⟩)) k) K = K (tlV t) :=
  propext ⟨fun ⟨u, hu, hk⟩ => (by have := hu w (BX.refl _ _); dsimp only at this; rw [r_ldCells (n := 4) (l := tlC t) rfl h] at this; have e : tlV t = u := this; rw [e]; exact hk), fun hk => ⟨tlV t, fun w' hw' => by dsimp only; rw [r_ldCells (n := 4) (l := tlC t) rfl fun j u hj => hw'.cell (h j u hj) hx]; rfl, hk⟩⟩

theorem any_cell (l : List Tile) (r : List Int) : (r.any fun x => !cellOk l x) = !(r.all (cellOk l)) := by
  induction r with
  | nil => rfl
  | cons x r ih => simp [ih]

set_option maxRecDepth 100000 in
set_option maxHeartbeats 1000000 in
theorem good_calls {v bv : Value} {l : List Tile} {B : List (List Int)} (w : World) (hr : RdT w v l) (hb : RdRows w bv B) (hll : l.length ≤ 1000) : Calls Try.prog 21 #[v, bv] w fun e w' => e = .returned (goodV l B) ∧ Kp w w' := by
  obtain ⟨ba, bcap, rfl, hbl⟩ := hb.len
  obtain ⟨va, vcap, rfl, hvc⟩ := hr.len
  refine lift21 ?_
  unfold S21
  refine r_box fun bS w0 eS sS hS k0 => ?_
  have h2' : w0.heap[bS]? = some (.cells #[.slice va l.length vcap] 22 (0, 0)) := hS
  have c2 : w0.cell? ⟨bS, 0, none⟩ = some (.slice va l.length vcap) := by rw [cell_row h2']; rfl
  rw [r_ld c2]
  refine r_use fok65 (valid_calls w0 (hr.kp k0)) rfl ?_
  rintro _ w1 ⟨rfl, k01⟩
  refine ⟨_, rfl, ?_⟩
  have k1 := Kp.trans k0 k01
  have h21 := block_below h2' k01
  cases b1 : setB l with
  | false =>
    simp (disch := omega) only [r_ln, r_pick, r_pickT, r_pickF, r_condT, r_condF, r_gdTT, r_gdFF, r_gdTF, r_gdFT, r_gqTT, r_gqFF, r_gqTF, r_gqFT, r_not, r_lss, r_leq, r_gtr, r_geq, r_eql, r_neq, r_add, r_sub, r_min2, r_max2, r_min3, r_max3, r_fa, r_iaS, r_iaA, r_ex2a, r_ex2b, r_ex3a, r_ex3b, r_ex3c, r_nc, r_keepE, Nat.zero_add, Nat.add_zero, Nat.mul_one, Int.toNat_natCast, toNat_sub1, toNat_add1, decide_true, decide_false, Bool.not_true, Bool.not_false, if_true, if_false, Bool.false_eq_true, reduceCtorEq]
    exact ⟨by rw [goodV_bad (by simp [boardB, b1])], k1⟩
  | true =>
  simp (disch := omega) only [r_ln, r_pick, r_pickT, r_pickF, r_condT, r_condF, r_gdTT, r_gdFF, r_gdTF, r_gdFT, r_gqTT, r_gqFF, r_gqTF, r_gqFT, r_not, r_lss, r_leq, r_gtr, r_geq, r_eql, r_neq, r_add, r_sub, r_min2, r_max2, r_min3, r_max3, r_fa, r_iaS, r_iaA, r_ex2a, r_ex2b, r_ex3a, r_ex3b, r_ex3c, r_nc, r_keepE, Nat.zero_add, Nat.add_zero, Nat.mul_one, Int.toNat_natCast, toNat_sub1, toNat_add1, decide_true, decide_false, Bool.not_true, Bool.not_false, if_true, if_false, Bool.false_eq_true, reduceCtorEq]
  refine r_use fok66 (side_calls _ w1) rfl ?_
  rintro _ _ ⟨rfl, rfl⟩
  refine ⟨_, rfl, ?_⟩
  cases b2 : sideB (B.length : Int) with
  | false =>
    simp (disch := omega) only [r_ln, r_pick, r_pickT, r_pickF, r_condT, r_condF, r_gdTT, r_gdFF, r_gdTF, r_gdFT, r_gqTT, r_gqFF, r_gqTF, r_gqFT, r_not, r_lss, r_leq, r_gtr, r_geq, r_eql, r_neq, r_add, r_sub, r_min2, r_max2, r_min3, r_max3, r_fa, r_iaS, r_iaA, r_ex2a, r_ex2b, r_ex3a, r_ex3b, r_ex3c, r_nc, r_keepE, Nat.zero_add, Nat.add_zero, Nat.mul_one, Int.toNat_natCast, toNat_sub1, toNat_add1, decide_true, decide_false, Bool.not_true, Bool.not_false, if_true, if_false, Bool.false_eq_true, reduceCtorEq]
    exact ⟨by rw [goodV_bad (by simp [boardB, b2])], k1⟩
  | true =>
  have hH : 1 ≤ B.length ∧ B.length ≤ 4 := by simp only [sideB, decide_eq_true_eq] at b2; omega
  obtain ⟨ob, oo, _, rv, eo, oc, orow⟩ := (hb.below k1).row (i := 0) (by omega)
  cases eo
  obtain ⟨ra, rcap, rfl, hrl⟩ := orow.len
  rw [Nat.add_zero] at oc
  have i0 : (0 : Int).toNat = 0 := rfl
  simp (disch := omega) only [r_ln, r_pick, r_pickT, r_pickF, r_condT, r_condF, r_gdTT, r_gdFF, r_gdTF, r_gdFT, r_gqTT, r_gqFF, r_gqTF, r_gqFT, r_not, r_lss, r_leq, r_gtr, r_geq, r_eql, r_neq, r_add, r_sub, r_min2, r_max2, r_min3, r_max3, r_fa, r_iaS, r_iaA, r_ex2a, r_ex2b, r_ex3a, r_ex3b, r_ex3c, r_nc, r_keepE, Nat.zero_add, Nat.add_zero, Nat.mul_one, Int.toNat_natCast, toNat_sub1, toNat_add1, decide_true, decide_false, Bool.not_true, Bool.not_false, if_true, if_false, Bool.false_eq_true, reduceCtorEq, i0, Nat.zero_mul, r_ld oc]
  refine r_use fok66 (side_calls _ w1) rfl ?_
  rintro _ _ ⟨rfl, rfl⟩
  refine ⟨_, rfl, ?_⟩
  cases b3 : sideB ((B.getD 0 []).length : Int) with
  | false =>
    simp (disch := omega) only [r_ln, r_pick, r_pickT, r_pickF, r_condT, r_condF, r_gdTT, r_gdFF, r_gdTF, r_gdFT, r_gqTT, r_gqFF, r_gqTF, r_gqFT, r_not, r_lss, r_leq, r_gtr, r_geq, r_eql, r_neq, r_add, r_sub, r_min2, r_max2, r_min3, r_max3, r_fa, r_iaS, r_iaA, r_ex2a, r_ex2b, r_ex3a, r_ex3b, r_ex3c, r_nc, r_keepE, Nat.zero_add, Nat.add_zero, Nat.mul_one, Int.toNat_natCast, toNat_sub1, toNat_add1, decide_true, decide_false, Bool.not_true, Bool.not_false, if_true, if_false, Bool.false_eq_true, reduceCtorEq]
    exact ⟨by rw [goodV_bad (by simp only [boardB, b3, Bool.and_false, Bool.false_and])], k1⟩
  | true =>
  have hW : 1 ≤ (B.getD 0 []).length ∧ (B.getD 0 []).length ≤ 4 := by simp only [sideB, decide_eq_true_eq] at b3; omega
  simp (disch := omega) only [r_ln, r_pick, r_pickT, r_pickF, r_condT, r_condF, r_gdTT, r_gdFF, r_gdTF, r_gdFT, r_gqTT, r_gqFF, r_gqTF, r_gqFT, r_not, r_lss, r_leq, r_gtr, r_geq, r_eql, r_neq, r_add, r_sub, r_min2, r_max2, r_min3, r_max3, r_fa, r_iaS, r_iaA, r_ex2a, r_ex2b, r_ex3a, r_ex3b, r_ex3c, r_nc, r_keepE, Nat.zero_add, Nat.add_zero, Nat.mul_one, Int.toNat_natCast, toNat_sub1, toNat_add1, decide_true, decide_false, Bool.not_true, Bool.not_false, if_true, if_false, Bool.false_eq_true, reduceCtorEq, i0, Nat.zero_mul, r_ld oc]
  have bad : ∀ i, i < B.length → boardRow l (B.getD 0 []).length (B.getD i []) = false → goodV l B = .tuple #[.bool false, .bool false, .int .i64 2] := fun i hi h => by
    refine goodV_bad ?_
    cases hB : boardB l B with
    | false => rfl
    | true =>
      simp only [boardB, Bool.and_eq_true] at hB
      have := List.all_eq_true.1 hB.2 _ (getD_mem (d := []) hi)
      rw [h] at this; cases this
  generalize hWe : (B.getD 0 []).length = W at *
  refine ⟨fun t9 wr => ∃ i : Nat, i ≤ B.length ∧ t9 = .int .i64 i ∧ (∀ k, k < i → boardRow l W (B.getD k []) = true) ∧ Kp w1 wr, fun t9 _ => B.length - (intOf t9).toNat, ⟨0, by omega, rfl, fun k hk => absurd hk (by omega), Kp.refl _⟩, ?_⟩
  rintro _ _ wi ⟨i, hi, rfl, hok, kwi⟩
  have k1i := Kp.trans k1 kwi
  have h2i := block_below h21 kwi
  by_cases hlt : i < B.length
  case pos =>
    have hlt' : (i : Int) < (B.length : Int) := by omega
    obtain ⟨pb, po, _, rv, ep, pc, prow⟩ := (hb.below k1i).row hlt
    cases ep
    obtain ⟨qa, qcap, rfl, hql⟩ := prow.len
    by_cases hlen : ((B.getD i []).length : Int) = (W : Int)
    case neg =>
      simp (disch := omega) only [r_ln, r_pick, r_pickT, r_pickF, r_condT, r_condF, r_gdTT, r_gdFF, r_gdTF, r_gdFT, r_gqTT, r_gqFF, r_gqTF, r_gqFT, r_not, r_lss, r_leq, r_gtr, r_geq, r_eql, r_neq, r_add, r_sub, r_min2, r_max2, r_min3, r_max3, r_fa, r_iaS, r_iaA, r_ex2a, r_ex2b, r_ex3a, r_ex3b, r_ex3c, r_nc, r_keepE, Nat.zero_add, Nat.add_zero, Nat.mul_one, Int.toNat_natCast, toNat_sub1, toNat_add1, decide_true, decide_false, Bool.not_true, Bool.not_false, if_true, if_false, Bool.false_eq_true, reduceCtorEq, decide_eq_true hlt', r_ld pc, hlen]
      exact ⟨by rw [bad i hlt (by simp only [boardRow]; rw [decide_eq_false (by omega)]; rfl)], k1i⟩
    simp (disch := omega) only [r_ln, r_pick, r_pickT, r_pickF, r_condT, r_condF, r_gdTT, r_gdFF, r_gdTF, r_gdFT, r_gqTT, r_gqFF, r_gqTF, r_gqFT, r_not, r_lss, r_leq, r_gtr, r_geq, r_eql, r_neq, r_add, r_sub, r_min2, r_max2, r_min3, r_max3, r_fa, r_iaS, r_iaA, r_ex2a, r_ex2b, r_ex3a, r_ex3b, r_ex3c, r_nc, r_keepE, Nat.zero_add, Nat.add_zero, Nat.mul_one, Int.toNat_natCast, toNat_sub1, toNat_add1, decide_true, decide_false, Bool.not_true, Bool.not_false, if_true, if_false, Bool.false_eq_true, reduceCtorEq, decide_eq_true hlt', r_ld pc, decide_eq_true hlen]
    refine r_use fok54 (containsF_calls (fun x => !cellOk l x) wi prow fun x _ w' K hkk hK => nocell_call wi h2i x w' hkk K hK) rfl ?_
    rintro _ wj ⟨rfl, kwj⟩
    refine ⟨_, rfl, ?_⟩
    rw [any_cell]
    cases hcall : (B.getD i []).all (cellOk l) with
    | false =>
      simp (disch := omega) only [r_ln, r_pick, r_pickT, r_pickF, r_condT, r_condF, r_gdTT, r_gdFF, r_gdTF, r_gdFT, r_gqTT, r_gqFF, r_gqTF, r_gqFT, r_not, r_lss, r_leq, r_gtr, r_geq, r_eql, r_neq, r_add, r_sub, r_min2, r_max2, r_min3, r_max3, r_fa, r_iaS, r_iaA, r_ex2a, r_ex2b, r_ex3a, r_ex3b, r_ex3c, r_nc, r_keepE, Nat.zero_add, Nat.add_zero, Nat.mul_one, Int.toNat_natCast, toNat_sub1, toNat_add1, decide_true, decide_false, Bool.not_true, Bool.not_false, if_true, if_false, Bool.false_eq_true, reduceCtorEq]
      exact ⟨by rw [bad i hlt (by simp only [boardRow, hcall, Bool.and_false])], Kp.trans k1i kwj⟩
    | true =>
      simp (disch := omega) only [r_ln, r_pick, r_pickT, r_pickF, r_condT, r_condF, r_gdTT, r_gdFF, r_gdTF, r_gdFT, r_gqTT, r_gqFF, r_gqTF, r_gqFT, r_not, r_lss, r_leq, r_gtr, r_geq, r_eql, r_neq, r_add, r_sub, r_min2, r_max2, r_min3, r_max3, r_fa, r_iaS, r_iaA, r_ex2a, r_ex2b, r_ex3a, r_ex3b, r_ex3c, r_nc, r_keepE, Nat.zero_add, Nat.add_zero, Nat.mul_one, Int.toNat_natCast, toNat_sub1, toNat_add1, decide_true, decide_false, Bool.not_true, Bool.not_false, if_true, if_false, Bool.false_eq_true, reduceCtorEq]
      refine ⟨⟨i + 1, by omega, by go_num, fun k hk => ?_, Kp.trans kwi kwj⟩, by simp only [intOf]; omega⟩
      by_cases hki : k < i
      · exact hok k hki
      · have : k = i := by omega
        subst this
        simp only [boardRow, hcall, Bool.and_true, decide_eq_true_eq]
        omega
  have hlt' : ¬ (i : Int) < (B.length : Int) := by omega
  have hall : B.all (boardRow l W) = true := List.all_eq_true.2 fun r hr => by
    obtain ⟨q, hq, rfl⟩ := List.getElem_of_mem hr
    have := hok q (by omega)
    rwa [getD_lt _ _ _ hq] at this
  simp (disch := omega) only [r_ln, r_pick, r_pickT, r_pickF, r_condT, r_condF, r_gdTT, r_gdFF, r_gdTF, r_gdFT, r_gqTT, r_gqFF, r_gqTF, r_gqFT, r_not, r_lss, r_leq, r_gtr, r_geq, r_eql, r_neq, r_add, r_sub, r_min2, r_max2, r_min3, r_max3, r_fa, r_iaS, r_iaA, r_ex2a, r_ex2b, r_ex3a, r_ex3b, r_ex3c, r_nc, r_keepE, Nat.zero_add, Nat.add_zero, Nat.mul_one, Int.toNat_natCast, toNat_sub1, toNat_add1, decide_true, decide_false, Bool.not_true, Bool.not_false, if_true, if_false, Bool.false_eq_true, reduceCtorEq, hlt']
  have hgv : goodV l B = .tuple #[.bool (judge l B W B.length).1, .bool (judge l B W B.length).2, .int .i64 0] := by
    have hB : boardB l B = true := by simp only [boardB, b1, b2, hWe, b3, hall, Bool.and_self]
    unfold goodV
    rw [hB, hWe]; rfl
  rw [hgv]
  have hle := judge_le l B W B.length
  have hrow := fun y hy => board_row (l := l) (B := B) (by rw [hWe]; exact hall) (y := y) hy
  rw [hWe] at hrow
  refine ⟨fun t11 t12 t13 wr => ∃ y : Nat, y ≤ B.length ∧ t13 = .int .i64 y ∧ t11 = .bool ((List.range y).foldl (rowF l B W B.length) (true, true)).1 ∧ t12 = .bool ((List.range y).foldl (rowF l B W B.length) (true, true)).2 ∧ Kp w1 wr, fun _ _ t13 _ => B.length - (intOf t13).toNat,
    ⟨0, by omega, rfl, rfl, rfl, kwi⟩, ?_⟩
  rintro _ _ _ _ wr ⟨y, hy, rfl, rfl, rfl, kr⟩
  by_cases hyl : y < B.length
  case neg =>
    have hyl' : ¬ (y : Int) < (B.length : Int) := by omega
    have ey : y = B.length := by omega
    subst ey
    rw [judge_rows] at hle ⊢
    simp (disch := omega) only [r_ln, r_pick, r_pickT, r_pickF, r_condT, r_condF, r_gdTT, r_gdFF, r_gdTF, r_gdFT, r_gqTT, r_gqFF, r_gqTF, r_gqFT, r_not, r_lss, r_leq, r_gtr, r_geq, r_eql, r_neq, r_add, r_sub, r_min2, r_max2, r_min3, r_max3, r_fa, r_iaS, r_iaA, r_ex2a, r_ex2b, r_ex3a, r_ex3b, r_ex3c, r_nc, r_keepE, Nat.zero_add, Nat.add_zero, Nat.mul_one, Int.toNat_natCast, toNat_sub1, toNat_add1, decide_true, decide_false, Bool.not_true, Bool.not_false, if_true, if_false, Bool.false_eq_true, reduceCtorEq, hyl']
    exact ⟨by first | rfl | trivial, Kp.trans k1 kr⟩
  have hyl' : (y : Int) < (B.length : Int) := by omega
  obtain ⟨yb, yo, _, yv, ey0, yc, yrow⟩ := (hb.below (Kp.trans k1 kr)).row hyl
  cases ey0
  obtain ⟨lr1, hc1⟩ := hrow y hyl
  obtain ⟨ya, ycap, rfl, _⟩ := yrow.len
  rw [lr1] at yc
  simp (disch := omega) only [r_ln, r_pick, r_pickT, r_pickF, r_condT, r_condF, r_gdTT, r_gdFF, r_gdTF, r_gdFT, r_gqTT, r_gqFF, r_gqTF, r_gqFT, r_not, r_lss, r_leq, r_gtr, r_geq, r_eql, r_neq, r_add, r_sub, r_min2, r_max2, r_min3, r_max3, r_fa, r_iaS, r_iaA, r_ex2a, r_ex2b, r_ex3a, r_ex3b, r_ex3c, r_nc, r_keepE, Nat.zero_add, Nat.add_zero, Nat.mul_one, Int.toNat_natCast, toNat_sub1, toNat_add1, decide_true, decide_false, Bool.not_true, Bool.not_false, if_true, if_false, Bool.false_eq_true, reduceCtorEq, decide_eq_true hyl', r_ld yc]
  have hsy : (List.range (y + 1)).foldl (rowF l B W B.length) (true, true) = rowF l B W B.length ((List.range y).foldl (rowF l B W B.length) (true, true)) y := by
    rw [List.range_succ, List.foldl_append]; rfl
  generalize (List.range y).foldl (rowF l B W B.length) (true, true) = s0 at *
  refine ⟨fun t11 t12 t14 wq => ∃ x : Nat, x ≤ W ∧ t14 = .int .i64 x ∧ t11 = .bool ((List.range x).foldl (cellF l B W B.length y) s0).1 ∧ t12 = .bool ((List.range x).foldl (cellF l B W B.length y) s0).2 ∧ Kp wr wq, fun _ _ t14 _ => W - (intOf t14).toNat,
    ⟨0, by omega, rfl, rfl, rfl, Kp.refl _⟩, ?_⟩
  rintro _ _ _ _ wq ⟨x, hx, rfl, rfl, rfl, kq⟩
  by_cases hxl : x < W
  case neg =>
    have hxl' : ¬ (x : Int) < (W : Int) := by omega
    have ex : x = W := by omega
    subst ex
    simp (disch := omega) only [r_ln, r_pick, r_pickT, r_pickF, r_condT, r_condF, r_gdTT, r_gdFF, r_gdTF, r_gdFT, r_gqTT, r_gqFF, r_gqTF, r_gqFT, r_not, r_lss, r_leq, r_gtr, r_geq, r_eql, r_neq, r_add, r_sub, r_min2, r_max2, r_min3, r_max3, r_fa, r_iaS, r_iaA, r_ex2a, r_ex2b, r_ex3a, r_ex3b, r_ex3c, r_nc, r_keepE, Nat.zero_add, Nat.add_zero, Nat.mul_one, Int.toNat_natCast, toNat_sub1, toNat_add1, decide_true, decide_false, Bool.not_true, Bool.not_false, if_true, if_false, Bool.false_eq_true, reduceCtorEq, hxl']
    exact ⟨⟨y + 1, by omega, by go_num, by rw [hsy]; rfl, by rw [hsy]; rfl, Kp.trans kr kq⟩, by simp only [intOf]; omega⟩
  have hxl' : (x : Int) < (W : Int) := by omega
  have hsx : (List.range (x + 1)).foldl (cellF l B W B.length y) s0 = cellF l B W B.length y ((List.range x).foldl (cellF l B W B.length y) s0) x := by
    rw [List.range_succ, List.foldl_append]; rfl
  generalize (List.range x).foldl (cellF l B W B.length y) s0 = s at *
  have hx2 : (x + 1) % W < W := Nat.mod_lt _ (by omega)
  have hy2 : (y + 1) % B.length < B.length := Nat.mod_lt _ (by omega)
  obtain ⟨n0, e0, l0⟩ := hc1 x hxl
  obtain ⟨n1, e1, l1'⟩ := hc1 _ hx2
  obtain ⟨lr2, hc2⟩ := hrow _ hy2
  obtain ⟨n2, e2, l2'⟩ := hc2 x hxl
  have a0 : at2 l B y x = tl l n0 := by rw [at2, e0]; rfl
  have a1 : at2 l B y ((x + 1) % W) = tl l n1 := by rw [at2, e1]; rfl
  have a2 : at2 l B ((y + 1) % B.length) x = tl l n2 := by rw [at2, e2]; rfl
  have kwq := Kp.trans k1 (Kp.trans kr kq)
  have yq := yrow.below kq
  obtain ⟨qb, qo, _, eq, qc⟩ := yq.at (j := x) (by omega)
  cases eq
  rw [e0] at qc
  simp (disch := omega) only [r_ln, r_pick, r_pickT, r_pickF, r_condT, r_condF, r_gdTT, r_gdFF, r_gdTF, r_gdFT, r_gqTT, r_gqFF, r_gqTF, r_gqFT, r_not, r_lss, r_leq, r_gtr, r_geq, r_eql, r_neq, r_add, r_sub, r_min2, r_max2, r_min3, r_max3, r_fa, r_iaS, r_iaA, r_ex2a, r_ex2b, r_ex3a, r_ex3b, r_ex3c, r_nc, r_keepE, Nat.zero_add, Nat.add_zero, Nat.mul_one, Int.toNat_natCast, toNat_sub1, toNat_add1, decide_true, decide_false, Bool.not_true, Bool.not_false, if_true, if_false, Bool.false_eq_true, reduceCtorEq, decide_eq_true hxl', r_ld qc]
  refine r_drew fun x2 y2 _ => ?_
  have k2 := Kp.trans kwq y2
  have hS2 : x2.heap[bS]? = some (.cells #[.slice va l.length vcap] 22 (0, 0)) := block_below (block_below h21 (Kp.trans kr kq)) y2
  have cS2 : x2.cell? ⟨bS, 0, none⟩ = some (.slice va l.length vcap) := by rw [cell_row hS2]; rfl
  obtain ⟨_, _, _, eq1, qc1⟩ := (yq.below y2).at (j := (x + 1) % W) (by omega)
  cases eq1
  rw [e1] at qc1
  obtain ⟨_, _, _, qb2, qo2, _, ep2, pc2, qc2⟩ := (hb.below k2).cell2 (y := (y + 1) % B.length) (x := x) hy2 (by omega)
  cases ep2
  rw [e2] at qc2
  obtain ⟨tb, to, _, et1, _, tc1⟩ := (hr.kp k2).at (tl_get l1')
  cases et1
  obtain ⟨_, _, _, et2, _, tc2⟩ := (hr.kp k2).at (tl_get l2')
  cases et2
  have lt1 := World.block_lt_of_cell? x2 _ qc1
  have lt2 := World.block_lt_of_cell? x2 _ pc2
  have lt3 := World.block_lt_of_cell? x2 _ qc2
  have lt4 := World.block_lt_of_cell? x2 _ (tc1 0 _ rfl)
  have lt5 := block_lt hS2
  dsimp only at lt1 lt2 lt3 lt4
  have nX : ∀ b, b < x2.heap.size → ¬ (fun k => x2.heap.size ≤ k) b := fun b hb => by dsimp only; omega
  have ex1 : (x : Int) + 1 = ((x + 1 : Nat) : Int) := by simp
  have ey1 : (y : Int) + 1 = ((y + 1 : Nat) : Int) := by simp
  refine r_join2 (fun p q w' => ∃ b17 b18, p = .pointer (some ⟨b17, 0, none⟩) ∧ q = .pointer (some ⟨b18, 0, none⟩) ∧ Kp x2 w' ∧ w'.heap[b17]? = some (.cells (tlV (tl l n1)).cells 32 (0, 0)) ∧ w'.heap[b18]? = some (.cells (tlV (tl l n2)).cells 32 (0, 0))) ?_ ?_
  rotate_left
  · intro kk hkk
    refine ⟨fun k => x2.heap.size ≤ k, ?_⟩
    simp (disch := omega) only [r_ln, r_pick, r_pickT, r_pickF, r_condT, r_condF, r_gdTT, r_gdFF, r_gdTF, r_gdFT, r_gqTT, r_gqFF, r_gqTF, r_gqFT, r_not, r_lss, r_leq, r_gtr, r_geq, r_eql, r_neq, r_add, r_sub, r_min2, r_max2, r_min3, r_max3, r_fa, r_iaS, r_iaA, r_ex2a, r_ex2b, r_ex3a, r_ex3b, r_ex3c, r_nc, r_keepE, Nat.zero_add, Nat.add_zero, Nat.mul_one, Int.toNat_natCast, toNat_sub1, toNat_add1, decide_true, decide_false, Bool.not_true, Bool.not_false, if_true, if_false, Bool.false_eq_true, reduceCtorEq, r_tx, r_txl (X := fun k => x2.heap.size ≤ k) cS2 (nX _ lt5), ex1, ey1, r_remN, r_txl (X := fun k => x2.heap.size ≤ k) qc1 (nX _ lt1), r_txC (X := fun k => x2.heap.size ≤ k) tc1 (nX _ lt4), r_txl (X := fun k => x2.heap.size ≤ k) pc2 (nX _ lt2), r_txl (X := fun k => x2.heap.size ≤ k) qc2 (nX _ lt3), r_txC (X := fun k => x2.heap.size ≤ k) tc2 (nX _ lt4)]
    refine ⟨?_, ?_, trivial⟩
    · refine r_box fun b17 z5 e5 s5 g5 v5 => ⟨BX.of_below v5, ?_⟩
      refine r_box fun b18 z6 e6 s6 g6 v6 => ⟨BX.of_below v6, ?_⟩
      refine r_stAll (n := 4) (ty := 32) (by kernel_rfl) rfl (by intro u hu; simp [Value.cells] at hu; rcases hu with rfl | rfl | rfl | rfl <;> rfl) (block_below g5 v6) rfl fun z7 c7 s7 g7 => ?_
      refine ⟨BX.of_chg (c7.mono fun k _ e => by omega), ?_⟩
      refine r_stAll (n := 4) (ty := 32) (by kernel_rfl) rfl (by intro u hu; simp [Value.cells] at hu; rcases hu with rfl | rfl | rfl | rfl <;> rfl) (c7.at g6 (by omega)) rfl fun z8 c8 s8 g8 => ?_
      exact hkk _ _ _ ⟨b17, b18, rfl, rfl, Kp.of_chg (Kp.of_chg (Kp.trans v5 v6) c7 fun i e => by omega) c8 fun i e => by omega, c8.at g7 (by omega), g8⟩
    · refine r_box fun b18 z5 e5 s5 g5 v5 => ⟨BX.of_below v5, ?_⟩
      refine r_box fun b17 z6 e6 s6 g6 v6 => ⟨BX.of_below v6, ?_⟩
      refine r_stAll (n := 4) (ty := 32) (by kernel_rfl) rfl (by intro u hu; simp [Value.cells] at hu; rcases hu with rfl | rfl | rfl | rfl <;> rfl) g6 rfl fun z7 c7 s7 g7 => ?_
      refine ⟨BX.of_chg (c7.mono fun k _ e => by omega), ?_⟩
      refine r_stAll (n := 4) (ty := 32) (by kernel_rfl) rfl (by intro u hu; simp [Value.cells] at hu; rcases hu with rfl | rfl | rfl | rfl <;> rfl) (c7.at (block_below g5 v6) (by omega)) rfl fun z8 c8 s8 g8 => ?_
      exact hkk _ _ _ ⟨b17, b18, rfl, rfl, Kp.of_chg (Kp.of_chg (Kp.trans v5 v6) c7 fun i e => by omega) c8 fun i e => by omega, c8.at g7 (by omega), g8⟩
  rintro _ _ z2 ⟨b17, b18, rfl, rfl, v2, g17, g18⟩
  refine r_drew fun x3 y3 _ => ?_
  have k3 := Kp.trans k2 (Kp.trans v2 y3)
  have cS3 := cell_later (Kp.trans v2 y3) cS2
  obtain ⟨_, _, _, et0, _, tc0⟩ := (hr.kp k3).at (tl_get l0)
  cases et0
  have t0E := tc0 1 _ rfl
  have h173 := block_below g17 y3
  have h183 := block_below g18 y3
  have c17 : x3.cell? ⟨b17, 3, none⟩ = some (.int .i64 (tW (tl l n1))) := by rw [cell_row h173]; rfl
  simp (disch := omega) only [r_ln, r_pick, r_pickT, r_pickF, r_condT, r_condF, r_gdTT, r_gdFF, r_gdTF, r_gdFT, r_gqTT, r_gqFF, r_gqTF, r_gqFT, r_not, r_lss, r_leq, r_gtr, r_geq, r_eql, r_neq, r_add, r_sub, r_min2, r_max2, r_min3, r_max3, r_fa, r_iaS, r_iaA, r_ex2a, r_ex2b, r_ex3a, r_ex3b, r_ex3c, r_nc, r_keepE, Nat.zero_add, Nat.add_zero, Nat.mul_one, Int.toNat_natCast, toNat_sub1, toNat_add1, decide_true, decide_false, Bool.not_true, Bool.not_false, if_true, if_false, Bool.false_eq_true, reduceCtorEq, r_ld cS3, r_ld t0E, r_ld c17]
  refine r_join2 (fun p q w' => p = .bool (stE l B W y x s).1 ∧ q = .bool (stE l B W y x s).2 ∧ x3 = w') ?_ ?_
  rotate_left
  · intro kk hkk
    unfold stE at hkk
    rw [a0, a1] at hkk
    by_cases hm : tE (tl l n0) = tW (tl l n1)
    · rw [if_pos hm] at hkk
      simp (disch := omega) only [r_ln, r_pick, r_pickT, r_pickF, r_condT, r_condF, r_gdTT, r_gdFF, r_gdTF, r_gdFT, r_gqTT, r_gqFF, r_gqTF, r_gqFT, r_not, r_lss, r_leq, r_gtr, r_geq, r_eql, r_neq, r_add, r_sub, r_min2, r_max2, r_min3, r_max3, r_fa, r_iaS, r_iaA, r_ex2a, r_ex2b, r_ex3a, r_ex3b, r_ex3c, r_nc, r_keepE, Nat.zero_add, Nat.add_zero, Nat.mul_one, Int.toNat_natCast, toNat_sub1, toNat_add1, decide_true, decide_false, Bool.not_true, Bool.not_false, if_true, if_false, Bool.false_eq_true, reduceCtorEq, decide_eq_true hm]
      exact hkk _ _ _ ⟨rfl, rfl, rfl⟩
    · rw [if_neg hm] at hkk
      obtain ⟨g, c⟩ := s
      cases g with
      | false =>
        simp (disch := omega) only [r_ln, r_pick, r_pickT, r_pickF, r_condT, r_condF, r_gdTT, r_gdFF, r_gdTF, r_gdFT, r_gqTT, r_gqFF, r_gqTF, r_gqFT, r_not, r_lss, r_leq, r_gtr, r_geq, r_eql, r_neq, r_add, r_sub, r_min2, r_max2, r_min3, r_max3, r_fa, r_iaS, r_iaA, r_ex2a, r_ex2b, r_ex3a, r_ex3b, r_ex3c, r_nc, r_keepE, Nat.zero_add, Nat.add_zero, Nat.mul_one, Int.toNat_natCast, toNat_sub1, toNat_add1, decide_true, decide_false, Bool.not_true, Bool.not_false, if_true, if_false, Bool.false_eq_true, reduceCtorEq, hm]
        exact hkk _ _ _ ⟨rfl, rfl, rfl⟩
      | true =>
        simp (disch := omega) only [r_ln, r_pick, r_pickT, r_pickF, r_condT, r_condF, r_gdTT, r_gdFF, r_gdTF, r_gdFT, r_gqTT, r_gqFF, r_gqTF, r_gqFT, r_not, r_lss, r_leq, r_gtr, r_geq, r_eql, r_neq, r_add, r_sub, r_min2, r_max2, r_min3, r_max3, r_fa, r_iaS, r_iaA, r_ex2a, r_ex2b, r_ex3a, r_ex3b, r_ex3c, r_nc, r_keepE, Nat.zero_add, Nat.add_zero, Nat.mul_one, Int.toNat_natCast, toNat_sub1, toNat_add1, decide_true, decide_false, Bool.not_true, Bool.not_false, if_true, if_false, Bool.false_eq_true, reduceCtorEq, hm]
        refine hkk _ _ _ ⟨?_, rfl, rfl⟩
        congr 1
        rw [Bool.true_and, decide_eq_decide]
        omega
  rintro _ _ _ ⟨rfl, rfl, rfl⟩
  generalize hs1 : stE l B W y x s = s1 at *
  refine r_drew fun x4 y4 _ => ?_
  have k4 := Kp.trans k3 y4
  have cS4 := cell_later y4 cS3
  obtain ⟨_, _, _, et0, _, tc0⟩ := (hr.kp k4).at (tl_get l0)
  cases et0
  have t0S := tc0 2 _ rfl
  have h184 := block_below h183 y4
  have c18 : x4.cell? ⟨b18, 0, none⟩ = some (.int .i64 (tN (tl l n2))) := by rw [cell_row h184]; rfl
  simp (disch := omega) only [r_ln, r_pick, r_pickT, r_pickF, r_condT, r_condF, r_gdTT, r_gdFF, r_gdTF, r_gdFT, r_gqTT, r_gqFF, r_gqTF, r_gqFT, r_not, r_lss, r_leq, r_gtr, r_geq, r_eql, r_neq, r_add, r_sub, r_min2, r_max2, r_min3, r_max3, r_fa, r_iaS, r_iaA, r_ex2a, r_ex2b, r_ex3a, r_ex3b, r_ex3c, r_nc, r_keepE, Nat.zero_add, Nat.add_zero, Nat.mul_one, Int.toNat_natCast, toNat_sub1, toNat_add1, decide_true, decide_false, Bool.not_true, Bool.not_false, if_true, if_false, Bool.false_eq_true, reduceCtorEq, r_ld cS4, r_ld t0S, r_ld c18]
  refine r_join2 (fun p q w' => p = .bool (stS l B B.length y x s1).1 ∧ q = .bool (stS l B B.length y x s1).2 ∧ x4 = w') ?_ ?_
  rotate_left
  · intro kk hkk
    unfold stS at hkk
    rw [a0, a2] at hkk
    by_cases hm : tS (tl l n0) = tN (tl l n2)
    · rw [if_pos hm] at hkk
      simp (disch := omega) only [r_ln, r_pick, r_pickT, r_pickF, r_condT, r_condF, r_gdTT, r_gdFF, r_gdTF, r_gdFT, r_gqTT, r_gqFF, r_gqTF, r_gqFT, r_not, r_lss, r_leq, r_gtr, r_geq, r_eql, r_neq, r_add, r_sub, r_min2, r_max2, r_min3, r_max3, r_fa, r_iaS, r_iaA, r_ex2a, r_ex2b, r_ex3a, r_ex3b, r_ex3c, r_nc, r_keepE, Nat.zero_add, Nat.add_zero, Nat.mul_one, Int.toNat_natCast, toNat_sub1, toNat_add1, decide_true, decide_false, Bool.not_true, Bool.not_false, if_true, if_false, Bool.false_eq_true, reduceCtorEq, decide_eq_true hm]
      exact hkk _ _ _ ⟨rfl, rfl, rfl⟩
    · rw [if_neg hm] at hkk
      obtain ⟨g, c⟩ := s1
      cases g with
      | false =>
        simp (disch := omega) only [r_ln, r_pick, r_pickT, r_pickF, r_condT, r_condF, r_gdTT, r_gdFF, r_gdTF, r_gdFT, r_gqTT, r_gqFF, r_gqTF, r_gqFT, r_not, r_lss, r_leq, r_gtr, r_geq, r_eql, r_neq, r_add, r_sub, r_min2, r_max2, r_min3, r_max3, r_fa, r_iaS, r_iaA, r_ex2a, r_ex2b, r_ex3a, r_ex3b, r_ex3c, r_nc, r_keepE, Nat.zero_add, Nat.add_zero, Nat.mul_one, Int.toNat_natCast, toNat_sub1, toNat_add1, decide_true, decide_false, Bool.not_true, Bool.not_false, if_true, if_false, Bool.false_eq_true, reduceCtorEq, hm]
        exact hkk _ _ _ ⟨rfl, rfl, rfl⟩
      | true =>
        simp (disch := omega) only [r_ln, r_pick, r_pickT, r_pickF, r_condT, r_condF, r_gdTT, r_gdFF, r_gdTF, r_gdFT, r_gqTT, r_gqFF, r_gqTF, r_gqFT, r_not, r_lss, r_leq, r_gtr, r_geq, r_eql, r_neq, r_add, r_sub, r_min2, r_max2, r_min3, r_max3, r_fa, r_iaS, r_iaA, r_ex2a, r_ex2b, r_ex3a, r_ex3b, r_ex3c, r_nc, r_keepE, Nat.zero_add, Nat.add_zero, Nat.mul_one, Int.toNat_natCast, toNat_sub1, toNat_add1, decide_true, decide_false, Bool.not_true, Bool.not_false, if_true, if_false, Bool.false_eq_true, reduceCtorEq, hm]
        refine hkk _ _ _ ⟨?_, rfl, rfl⟩
        congr 1
        rw [Bool.true_and, decide_eq_decide]
        omega
  rintro _ _ _ ⟨rfl, rfl, rfl⟩
  try simp (disch := omega) only [r_ln, r_pick, r_pickT, r_pickF, r_condT, r_condF, r_gdTT, r_gdFF, r_gdTF, r_gdFT, r_gqTT, r_gqFF, r_gqTF, r_gqFT, r_not, r_lss, r_leq, r_gtr, r_geq, r_eql, r_neq, r_add, r_sub, r_min2, r_max2, r_min3, r_max3, r_fa, r_iaS, r_iaA, r_ex2a, r_ex2b, r_ex3a, r_ex3b, r_ex3c, r_nc, r_keepE, Nat.zero_add, Nat.add_zero, Nat.mul_one, Int.toNat_natCast, toNat_sub1, toNat_add1, decide_true, decide_false, Bool.not_true, Bool.not_false, if_true, if_false, Bool.false_eq_true, reduceCtorEq]
  have hcell : cellF l B W B.length y s x = stS l B B.length y x s1 := by rw [cellF, hs1]
  refine ⟨⟨x + 1, by omega, by first | rfl | go_num, by rw [hsx, hcell], by rw [hsx, hcell], Kp.trans kq (Kp.trans y2 (Kp.trans v2 (Kp.trans y3 y4)))⟩, by simp only [intOf]; omega⟩

end Go.Proofs.Ytgalbokmgffhkaa

/- Contract: WangRepeats; and what Fill finds is good, plainly. -/
namespace Go.Proofs.Ytgalbokmgffhkaa
open Go.Lf Go.RowKit Go.Wg

/-! ### what Fill finds -/
theorem fill_chain {l : List Tile} (hs : IsSet l) {w : Nat} : ∀ {k : Nat} {c : Int} {B : List (List Nat)}, fillM l w k c = some B → B.length = k ∧ (∀ r ∈ B, r ∈ rowsL l w) ∧ (0 ≤ c → chainR l c B)
  | 0, c, B, h => by
    simp only [fillM, Option.some.injEq] at h
    subst h
    exact ⟨rfl, by simp, fun _ => trivial⟩
  | k + 1, c, B, h => by
    unfold fillM at h
    split at h
    · cases h
    · rename_i r hr
      cases hB : fillM l w k (code (souths l r)) with
      | none => rw [hB] at h; cases h
      | some B' =>
        rw [hB] at h
        simp only [Option.map_some, Option.some.injEq] at h
        subst h
        obtain ⟨h1, h2, h3⟩ := fill_chain hs hB
        have hm := List.mem_of_find?_eq_some hr
        have hp := List.find?_some hr
        obtain ⟨q1, q2, _⟩ := mem_rowsL.1 hm
        have hc := code_bound (cols_norths hs q2).2
        refine ⟨by simp [h1], fun q hq => ?_, fun h0 => ⟨?_, h3 hc.1⟩⟩
        · rcases List.mem_cons.1 hq with rfl | hq
          · exact hm
          · exact h2 q hq
        · simp only [rowP, Bool.and_eq_true, Bool.or_eq_true, decide_eq_true_eq] at hp
          rcases hp.1 with h4 | h4
          · omega
          · exact h4
theorem fill_isB {l : List Tile} (hs : IsSet l) {w h : Nat} (hh : 0 < h) {B : List (List Nat)} (hf : fillM l w h (-1) = some B) : IsB l w h B := by
  obtain ⟨k, rfl⟩ : ∃ k, h = k + 1 := ⟨h - 1, by omega⟩
  refine (mem_ab hs hh).1 ?_
  unfold fillM at hf
  split at hf
  · cases hf
  · rename_i r hr
    cases hB : fillM l w k (code (souths l r)) with
    | none => rw [hB] at hf; cases hf
    | some B' =>
      rw [hB] at hf
      simp only [Option.map_some, Option.some.injEq] at hf
      subst hf
      obtain ⟨h1, h2, h3⟩ := fill_chain hs hB
      have hm := List.mem_of_find?_eq_some hr
      obtain ⟨q1, q2, _⟩ := mem_rowsL.1 hm
      have hc := code_bound (cols_norths hs q2).2
      unfold AB
      exact List.mem_flatMap.2 ⟨r, hm, List.mem_map.2 ⟨B', mem_bsc.2 ⟨h1, h2, h3 hc.1⟩, rfl⟩⟩

theorem at2_ints {l : List Tile} {B : List (List Nat)} {y x : Nat} (hy : y < B.length) (hx : x < (B.getD y []).length) : at2 l (B.map intsR) y x = tl l (atB B y x) := by
  have e1 : (B.map intsR).getD y [] = intsR (B.getD y []) := by
    rw [getD_lt _ _ _ (by simpa using hy), getD_lt _ _ _ hy]; simp
  have e2 : (intsR (B.getD y [])).getD x 0 = ((B.getD y []).getD x 0 : Nat) := by
    rw [getD_lt _ _ _ (by simpa [intsR] using hx), getD_lt _ _ _ hx]; simp [intsR]
  unfold at2 atB
  rw [e1, e2, Int.toNat_natCast]
theorem fold_keep {α : Type} {f : Bool × Bool → α → Bool × Bool} : ∀ {L : List α} {s : Bool × Bool}, (∀ a ∈ L, ∀ s : Bool × Bool, s.1 = true → (f s a).1 = true) → s.1 = true → (L.foldl f s).1 = true
  | [], s, _, h => h
  | a :: L, s, hf, h => by
    rw [List.foldl_cons]
    exact fold_keep (fun b hb => hf b (by simp [hb])) (hf a (by simp) s h)
theorem isB_good {l : List Tile} {w h : Nat} {B : List (List Nat)} (hB : IsB l w h B) (hw : 0 < w) (hh : 0 < h) (hset : setB l = true) (hw4 : w ≤ 4) (hh4 : h ≤ 4) : ∃ c : Bool, goodV l (B.map intsR) = .tuple #[.bool true, .bool c, .int .i64 0] := by
  have hrow : ∀ y, y < h → (B.map intsR).getD y [] = intsR (B.getD y []) := fun y hy => by
    have := hB.len
    rw [getD_lt _ _ _ (by simp; omega), getD_lt _ _ _ (by omega)]; simp
  have hlen : (B.map intsR).length = h := by rw [List.length_map, hB.len]
  have h0 : ((B.map intsR).getD 0 []).length = w := by rw [hrow 0 hh]; simp [intsR]; exact hB.row 0 hh
  have hb : boardB l (B.map intsR) = true := by
    unfold boardB
    rw [hset, h0, hlen]
    have s1 : sideB (h : Int) = true := by unfold sideB; exact decide_eq_true (by omega)
    have s2 : sideB (w : Int) = true := by unfold sideB; exact decide_eq_true (by omega)
    rw [s1, s2]
    simp only [Bool.true_and, List.all_eq_true, List.mem_map]
    rintro _ ⟨r, hr, rfl⟩
    obtain ⟨y, hy, rfl⟩ := List.getElem_of_mem hr
    have hyh : y < h := by have := hB.len; omega
    have hrl := hB.row y hyh
    rw [getD_lt _ _ _ hy] at hrl
    simp only [boardRow, Bool.and_eq_true, decide_eq_true_eq, List.all_eq_true]
    refine ⟨by simp [intsR, hrl], fun n hn => ?_⟩
    simp only [intsR, List.mem_map] at hn
    obtain ⟨i, hi, rfl⟩ := hn
    obtain ⟨x, hx, rfl⟩ := List.getElem_of_mem hi
    have := hB.lt y x hyh (by omega)
    unfold atB at this
    rw [getD_lt _ _ _ hy, getD_lt _ _ _ hx] at this
    simp only [cellOk, Bool.and_eq_true, decide_eq_true_eq]
    omega
  have hj : (judge l (B.map intsR) w h).1 = true := by
    unfold judge
    refine fold_keep (fun y hy s hsv => ?_) rfl
    have hyh := List.mem_range.1 hy
    unfold rowF
    refine fold_keep (fun x hx s hsv => ?_) hsv
    have hxw := List.mem_range.1 hx
    have hBl := hB.len
    have hat : ∀ y x, y < h → x < w → at2 l (B.map intsR) y x = tl l (atB B y x) := fun y x hy hx => at2_ints (by omega) (by have := hB.row y hy; omega)
    have g1 : (stE l (B.map intsR) w y x s).1 = true := by
      unfold stE
      split
      · exact hsv
      · rename_i hne
        by_cases e : x + 1 < w
        · exfalso
          apply hne
          rw [Nat.mod_eq_of_lt e, hat y x hyh hxw, hat y (x + 1) hyh e]
          exact hB.ew y x hyh e
        · simp [hsv]; omega
    unfold cellF stS
    split
    · exact g1
    · rename_i hne
      by_cases e : y + 1 < h
      · exfalso
        apply hne
        rw [Nat.mod_eq_of_lt e, hat y x hyh hxw, hat (y + 1) x e hxw]
        exact hB.sn y x e hxw
      · simp [g1]; omega
  exact ⟨_, by rw [goodV, if_pos hb, h0, hlen, hj]⟩

theorem fillE_pos {l : List Tile} (hs : IsSet l) {W H : Nat} (hW : 0 < W) (hH : 0 < H) (he : ordErr l W H = 0) (hb : 0 < boards (linesL l W) H) : fillE l W H = 0 := by
  rw [fillE, if_pos he]
  have hn := (fill_all hs hW hH).1
  rw [ways_boards hs hW hH] at hn
  simp only [Int.toNat_natCast]
  have hsome : (fillM l W H (-1)).isNone = false := by
    cases hM : fillM l W H (-1) with
    | none => have := hn.2 hM; omega
    | some _ => rfl
  rw [if_neg (by rw [hsome]; decide)]
theorem fillE_zero {l : List Tile} (hs : IsSet l) {W H : Nat} (hW : 0 < W) (hH : 0 < H) (he : ordErr l W H = 0) (hb : boards (linesL l W) H = 0) : fillE l W H = 10 := by
  rw [fillE, if_pos he]
  have hn := (fill_all hs hW hH).1
  rw [ways_boards hs hW hH] at hn
  simp only [Int.toNat_natCast]
  rw [if_pos (by rw [hn.1 hb]; rfl)]
theorem ord_zero {l : List Tile} (hset : setB l = true) {a b : Nat} (ha : 1 ≤ a ∧ a ≤ 4) (hb : 1 ≤ b ∧ b ≤ 4) : ordErr l (a : Int) (b : Int) = 0 := by
  unfold ordErr
  rw [if_pos ⟨hset, by unfold sideB; exact decide_eq_true (by omega), by unfold sideB; exact decide_eq_true (by omega)⟩]

theorem findSome_of {α : Type} {f : Nat → Option α} {x : α} : ∀ {n : Nat}, (List.range n).findSome? f = some x → ∃ i, i < n ∧ f i = some x ∧ ∀ j, j < i → f j = none
  | 0, h => by simp at h
  | n + 1, h => by
    rw [List.range_succ, List.findSome?_append] at h
    cases hn : (List.range n).findSome? f with
    | some y =>
      rw [hn] at h
      simp at h
      subst h
      obtain ⟨i, h1, h2, h3⟩ := findSome_of hn
      exact ⟨i, by omega, h2, h3⟩
    | none =>
      rw [hn] at h
      simp at h
      rw [List.findSome?_eq_none_iff] at hn
      exact ⟨n, by omega, h, fun j hj => hn j (List.mem_range.2 hj)⟩
theorem least_spec {l : List Tile} (hs : IsSet l) {m : Nat × Nat} (h : leastM l = some m) : (1 ≤ m.1 ∧ m.1 ≤ 4) ∧ (1 ≤ m.2 ∧ m.2 ≤ 4) ∧ 0 < closedV l m.1 m.2 ∧ ∀ a b : Nat, (1 ≤ a ∧ a ≤ 4) → (1 ≤ b ∧ b ≤ 4) → a * b < m.1 * m.2 → closedV l a b = 0 := by
  obtain ⟨c, hc, h1, h2⟩ := findSome_of h
  cases hf : findW l (c + 1) with
  | none => rw [hf] at h1; cases h1
  | some i =>
    rw [hf] at h1
    simp only [Option.map_some, Option.some.injEq] at h1
    subst h1
    have hp := List.find?_some hf
    have hi := List.mem_range.1 (List.mem_of_find?_eq_some hf)
    simp only [leastP, Bool.and_eq_true, decide_eq_true_eq] at hp
    obtain ⟨⟨p1, p2⟩, p3⟩ := hp
    have hpos : 1 ≤ (c + 1) / (i + 1) := by
      refine Nat.pos_of_ne_zero fun h => ?_
      rw [h] at p1; omega
    refine ⟨by dsimp only; omega, ⟨hpos, p2⟩, p3, fun a b ha hb hlt => ?_⟩
    dsimp only at hlt
    rw [Nat.mul_comm (i + 1), p1] at hlt
    have hab : 1 ≤ a * b := Nat.mul_pos ha.1 hb.1
    have hn := h2 (a * b - 1) (by omega)
    rw [show a * b - 1 + 1 = a * b by omega] at hn
    have hfn : findW l (a * b) = none := by
      cases hq : findW l (a * b) with
      | none => rfl
      | some j => rw [hq] at hn; cases hn
    unfold findW at hfn
    rw [List.find?_eq_none] at hfn
    have h3 := hfn (a - 1) (List.mem_range.2 (by omega))
    rw [show a - 1 + 1 = a by omega] at h3
    have hd : a * b / a = b := Nat.mul_div_cancel_left b (by omega)
    have h4 : ¬ 0 < closedV l a b := fun h0 => h3 (by
      simp only [leastP, Bool.and_eq_true, decide_eq_true_eq]
      rw [hd]
      exact ⟨⟨Nat.mul_comm b a, hb.2⟩, h0⟩)
    rw [closedV_exact hs ha (by omega)] at h4 ⊢
    unfold capI at h4 ⊢
    omega

theorem r_rem4u {w : World} {K : Value → Prop} {t : TypeId} {lit : Bool} {k : IntKind} (s : Nat) : binQ Try.prog w .rem t lit (.int k s) (.int k 4) K = K (.int k ((s % 4 : Nat) : Int)) := r_remN s 4 (by omega)

set_option maxRecDepth 100000 in
set_option maxHeartbeats 1000000 in
theorem repeats_calls {v : Value} {l : List Tile} (x y : Nat) (wz : World) (hr : RdT wz v l) : Calls Try.prog 12 #[v, .int .u8 x, .int .u8 y] wz fun e w' => e = .returned (.bool true) ∧ Kp wz w' := by
  have hr0 := hr
  obtain ⟨va, vcap, rfl, hvc⟩ := hr.len
  refine lift12 ?_
  unfold S12
  have fin : ∀ (w' : World), Kp wz w' → Calls Try.prog 18 #[] w' fun e w'' => e = .returned (.bool true) ∧ Kp wz w'' := fun w' k => (law_alive w').mono fun e w'' h => ⟨h.1, Kp.trans k h.2⟩
  by_cases hl : (40 : Int) < (l.length : Int)
  · simp (disch := omega) only [r_ln, r_pick, r_pickT, r_pickF, r_condT, r_condF, r_gdTT, r_gdFF, r_gdTF, r_gdFT, r_gqTT, r_gqFF, r_gqTF, r_gqFT, r_not, r_lss, r_leq, r_gtr, r_geq, r_eql, r_neq, r_add, r_sub, r_min2, r_max2, r_min3, r_max3, r_fa, r_iaS, r_iaA, r_ex2a, r_ex2b, r_ex3a, r_ex3b, r_ex3c, r_nc, r_keepE, Nat.zero_add, Nat.add_zero, Nat.mul_one, Int.toNat_natCast, toNat_sub1, toNat_add1, decide_true, decide_false, Bool.not_true, Bool.not_false, if_true, if_false, Bool.false_eq_true, reduceCtorEq, decide_eq_true hl, r_gdU]
    refine r_use fok18 (fin wz (Kp.refl _)) rfl ?_
    rintro _ w1 ⟨rfl, k1⟩
    exact ⟨_, rfl, by first | rfl | trivial, k1⟩
  simp (disch := omega) only [r_ln, r_pick, r_pickT, r_pickF, r_condT, r_condF, r_gdTT, r_gdFF, r_gdTF, r_gdFT, r_gqTT, r_gqFF, r_gqTF, r_gqFT, r_not, r_lss, r_leq, r_gtr, r_geq, r_eql, r_neq, r_add, r_sub, r_min2, r_max2, r_min3, r_max3, r_fa, r_iaS, r_iaA, r_ex2a, r_ex2b, r_ex3a, r_ex3b, r_ex3c, r_nc, r_keepE, Nat.zero_add, Nat.add_zero, Nat.mul_one, Int.toNat_natCast, toNat_sub1, toNat_add1, decide_true, decide_false, Bool.not_true, Bool.not_false, if_true, if_false, Bool.false_eq_true, reduceCtorEq, hl, r_gdU]
  refine r_use fok35 (refset_calls wz hr0) rfl ?_
  rintro _ w1 ⟨rfl, k1⟩
  refine ⟨_, rfl, ?_⟩
  refine (show ∀ K : World → Prop, (∀ w2, Kp wz w2 → K w2) → (∀ w3, Kp wz w3 → callW Try.prog (.func (.func 18) #[] #[]) [] w3 fun t30 w => (Ending.returned t30 = .returned (.bool true) ∧ Kp wz w)) →
      gd (.bool (setB l)) true (fun k => k (.slice va l.length vcap) w1) w1 fun t25 w =>
      gd (.bool (setB l)) true (fun k => callW Try.prog (.func (.func 36) #[] #[]) [t25] w k) w fun t26 w =>
      gd (.bool (setB l)) true (fun k => unQ .not t26 fun v => k v w) w fun t27 w =>
      gd (.bool false) false (fun k => pickQ (.bool (setB l)) t27 (.bool false) fun v => k v w) w fun t28 w =>
      pickQ (.bool false) (.bool true) t28 fun t29 =>
      condW t29 (
        callW Try.prog (.func (.func 18) #[] #[]) [] w fun t30 w =>
        (Ending.returned t30 = .returned (.bool true) ∧ Kp wz w)
      ) (K w) from fun K hK hal => by
    cases hset : setB l with
    | false =>
      simp (disch := omega) only [r_ln, r_pick, r_pickT, r_pickF, r_condT, r_condF, r_gdTT, r_gdFF, r_gdTF, r_gdFT, r_gqTT, r_gqFF, r_gqTF, r_gqFT, r_not, r_lss, r_leq, r_gtr, r_geq, r_eql, r_neq, r_add, r_sub, r_min2, r_max2, r_min3, r_max3, r_fa, r_iaS, r_iaA, r_ex2a, r_ex2b, r_ex3a, r_ex3b, r_ex3c, r_nc, r_keepE, Nat.zero_add, Nat.add_zero, Nat.mul_one, Int.toNat_natCast, toNat_sub1, toNat_add1, decide_true, decide_false, Bool.not_true, Bool.not_false, if_true, if_false, Bool.false_eq_true, reduceCtorEq, r_gdU]
      exact hK w1 k1
    | true =>
      simp (disch := omega) only [r_ln, r_pick, r_pickT, r_pickF, r_condT, r_condF, r_gdTT, r_gdFF, r_gdTF, r_gdFT, r_gqTT, r_gqFF, r_gqTF, r_gqFT, r_not, r_lss, r_leq, r_gtr, r_geq, r_eql, r_neq, r_add, r_sub, r_min2, r_max2, r_min3, r_max3, r_fa, r_iaS, r_iaA, r_ex2a, r_ex2b, r_ex3a, r_ex3b, r_ex3c, r_nc, r_keepE, Nat.zero_add, Nat.add_zero, Nat.mul_one, Int.toNat_natCast, toNat_sub1, toNat_add1, decide_true, decide_false, Bool.not_true, Bool.not_false, if_true, if_false, Bool.false_eq_true, reduceCtorEq, r_gdU]
      refine r_use fok36 (two_calls w1 (hr0.kp k1) (by omega)) rfl ?_
      rintro _ w2 ⟨b, rfl, k2⟩
      refine ⟨_, rfl, ?_⟩
      have k02 := Kp.trans k1 k2
      cases b with
      | false =>
        simp (disch := omega) only [r_ln, r_pick, r_pickT, r_pickF, r_condT, r_condF, r_gdTT, r_gdFF, r_gdTF, r_gdFT, r_gqTT, r_gqFF, r_gqTF, r_gqFT, r_not, r_lss, r_leq, r_gtr, r_geq, r_eql, r_neq, r_add, r_sub, r_min2, r_max2, r_min3, r_max3, r_fa, r_iaS, r_iaA, r_ex2a, r_ex2b, r_ex3a, r_ex3b, r_ex3c, r_nc, r_keepE, Nat.zero_add, Nat.add_zero, Nat.mul_one, Int.toNat_natCast, toNat_sub1, toNat_add1, decide_true, decide_false, Bool.not_true, Bool.not_false, if_true, if_false, Bool.false_eq_true, reduceCtorEq, r_gdU]
        exact hal w2 k02
      | true =>
        simp (disch := omega) only [r_ln, r_pick, r_pickT, r_pickF, r_condT, r_condF, r_gdTT, r_gdFF, r_gdTF, r_gdFT, r_gqTT, r_gqFF, r_gqTF, r_gqFT, r_not, r_lss, r_leq, r_gtr, r_geq, r_eql, r_neq, r_add, r_sub, r_min2, r_max2, r_min3, r_max3, r_fa, r_iaS, r_iaA, r_ex2a, r_ex2b, r_ex3a, r_ex3b, r_ex3c, r_nc, r_keepE, Nat.zero_add, Nat.add_zero, Nat.mul_one, Int.toNat_natCast, toNat_sub1, toNat_add1, decide_true, decide_false, Bool.not_true, Bool.not_false, if_true, if_false, Bool.false_eq_true, reduceCtorEq, r_gdU]
        exact hK w2 k02) _ (fun w2 k2 => ?_) fun w3 k3 => ?_
  rotate_left
  · refine r_use fok18 (fin w3 k3) rfl ?_
    rintro _ w4 ⟨rfl, k4⟩
    exact ⟨_, rfl, by first | rfl | trivial, k4⟩
  refine r_use fok37 (least_calls w2 (hr0.kp k2)) rfl ?_
  rintro _ w3 ⟨rfl, k3⟩
  refine ⟨_, rfl, ?_⟩
  have k03 := Kp.trans k2 k3
  have h22 : decide ((2 : Int) = 2) = true := rfl
  have h20 : decide ((2 : Int) = 0) = false := by decide
  have h100 : decide ((10 : Int) = 0) = false := by decide
  have h102 : decide ((10 : Int) = 2) = false := by decide
  have h1010 : decide ((10 : Int) = 10) = true := rfl
  have h00 : decide ((0 : Int) = 0) = true := rfl
  unfold leastV
  cases hset : setB l with
  | false =>
    simp (disch := omega) only [r_ln, r_pick, r_pickT, r_pickF, r_condT, r_condF, r_gdTT, r_gdFF, r_gdTF, r_gdFT, r_gqTT, r_gqFF, r_gqTF, r_gqFT, r_not, r_lss, r_leq, r_gtr, r_geq, r_eql, r_neq, r_add, r_sub, r_min2, r_max2, r_min3, r_max3, r_fa, r_iaS, r_iaA, r_ex2a, r_ex2b, r_ex3a, r_ex3b, r_ex3c, r_nc, r_keepE, Nat.zero_add, Nat.add_zero, Nat.mul_one, Int.toNat_natCast, toNat_sub1, toNat_add1, decide_true, decide_false, Bool.not_true, Bool.not_false, if_true, if_false, Bool.false_eq_true, reduceCtorEq, h20, h22, h00, r_gdU, Bool.false_eq_true, ite_false]
    refine r_use fok18 (fin w3 k03) rfl ?_
    rintro _ w4 ⟨rfl, k4⟩
    refine ⟨_, rfl, ?_⟩
    simp (disch := omega) only [r_ln, r_pick, r_pickT, r_pickF, r_condT, r_condF, r_gdTT, r_gdFF, r_gdTF, r_gdFT, r_gqTT, r_gqFF, r_gqTF, r_gqFT, r_not, r_lss, r_leq, r_gtr, r_geq, r_eql, r_neq, r_add, r_sub, r_min2, r_max2, r_min3, r_max3, r_fa, r_iaS, r_iaA, r_ex2a, r_ex2b, r_ex3a, r_ex3b, r_ex3c, r_nc, r_keepE, Nat.zero_add, Nat.add_zero, Nat.mul_one, Int.toNat_natCast, toNat_sub1, toNat_add1, decide_true, decide_false, Bool.not_true, Bool.not_false, if_true, if_false, Bool.false_eq_true, reduceCtorEq]
    exact ⟨by first | rfl | trivial, k4⟩
  | true =>
  have hs := isSet_of hset
  rw [if_pos rfl]
  cases hM : leastM l with
  | none =>
    simp (disch := omega) only [r_ln, r_pick, r_pickT, r_pickF, r_condT, r_condF, r_gdTT, r_gdFF, r_gdTF, r_gdFT, r_gqTT, r_gqFF, r_gqTF, r_gqFT, r_not, r_lss, r_leq, r_gtr, r_geq, r_eql, r_neq, r_add, r_sub, r_min2, r_max2, r_min3, r_max3, r_fa, r_iaS, r_iaA, r_ex2a, r_ex2b, r_ex3a, r_ex3b, r_ex3c, r_nc, r_keepE, Nat.zero_add, Nat.add_zero, Nat.mul_one, Int.toNat_natCast, toNat_sub1, toNat_add1, decide_true, decide_false, Bool.not_true, Bool.not_false, if_true, if_false, Bool.false_eq_true, reduceCtorEq, h100, h102, h1010, h00, r_gdU]
    refine r_use fok18 (fin w3 k03) rfl ?_
    rintro _ w4 ⟨rfl, k4⟩
    refine ⟨_, rfl, ?_⟩
    simp (disch := omega) only [r_ln, r_pick, r_pickT, r_pickF, r_condT, r_condF, r_gdTT, r_gdFF, r_gdTF, r_gdFT, r_gqTT, r_gqFF, r_gqTF, r_gqFT, r_not, r_lss, r_leq, r_gtr, r_geq, r_eql, r_neq, r_add, r_sub, r_min2, r_max2, r_min3, r_max3, r_fa, r_iaS, r_iaA, r_ex2a, r_ex2b, r_ex3a, r_ex3b, r_ex3c, r_nc, r_keepE, Nat.zero_add, Nat.add_zero, Nat.mul_one, Int.toNat_natCast, toNat_sub1, toNat_add1, decide_true, decide_false, Bool.not_true, Bool.not_false, if_true, if_false, Bool.false_eq_true, reduceCtorEq]
    exact ⟨by first | rfl | trivial, k4⟩
  | some m =>
  obtain ⟨m1, m2, m3, m4⟩ := least_spec hs hM
  obtain ⟨p, q⟩ := m
  dsimp only at m1 m2 m3 m4
  simp (disch := omega) only [r_ln, r_pick, r_pickT, r_pickF, r_condT, r_condF, r_gdTT, r_gdFF, r_gdTF, r_gdFT, r_gqTT, r_gqFF, r_gqTF, r_gqFT, r_not, r_lss, r_leq, r_gtr, r_geq, r_eql, r_neq, r_add, r_sub, r_min2, r_max2, r_min3, r_max3, r_fa, r_iaS, r_iaA, r_ex2a, r_ex2b, r_ex3a, r_ex3b, r_ex3c, r_nc, r_keepE, Nat.zero_add, Nat.add_zero, Nat.mul_one, Int.toNat_natCast, toNat_sub1, toNat_add1, decide_true, decide_false, Bool.not_true, Bool.not_false, if_true, if_false, Bool.false_eq_true, reduceCtorEq, h00, r_gdU]
  rw [r_rem4u, r_cv, IntWalk.i64_in _ (by omega), r_add _ _ (by omega) (by omega), r_rem4u, r_cv, IntWalk.i64_in _ (by omega), r_add _ _ (by omega) (by omega)]
  have ea : 1 + ((x % 4 : Nat) : Int) = ((x % 4 + 1 : Nat) : Int) := by omega
  have eb : 1 + ((y % 4 : Nat) : Int) = ((y % 4 + 1 : Nat) : Int) := by omega
  rw [ea, eb]
  have hA : 1 ≤ x % 4 + 1 ∧ x % 4 + 1 ≤ 4 := by omega
  have hB : 1 ≤ y % 4 + 1 ∧ y % 4 + 1 ≤ 4 := by omega
  generalize x % 4 + 1 = a at *
  generalize y % 4 + 1 = b at *
  have hround : 0 < roundN (closeR l p) (rN l) (rS l) q := by
    rw [closedV_exact hs m1 (by omega)] at m3
    unfold capI at m3
    omega
  have hbd := closed_boards hs (a := a) (b := b) (by omega) (by omega) (by omega) hround
  refine r_use fok27 (fill_calls (a : Int) (b : Int) w3 (hr0.kp k03)) rfl ?_
  rintro _ w4 ⟨k4, p4⟩
  obtain ⟨v4, rfl, _⟩ := p4.form
  refine ⟨_, rfl, ?_⟩
  have k04 := Kp.trans k03 k4
  rw [fillE_pos hs (by omega) (by omega) (ord_zero hset hA hB) hbd]
  simp (disch := omega) only [r_ln, r_pick, r_pickT, r_pickF, r_condT, r_condF, r_gdTT, r_gdFF, r_gdTF, r_gdFT, r_gqTT, r_gqFF, r_gqTF, r_gqFT, r_not, r_lss, r_leq, r_gtr, r_geq, r_eql, r_neq, r_add, r_sub, r_min2, r_max2, r_min3, r_max3, r_fa, r_iaS, r_iaA, r_ex2a, r_ex2b, r_ex3a, r_ex3b, r_ex3c, r_nc, r_keepE, Nat.zero_add, Nat.add_zero, Nat.mul_one, Int.toNat_natCast, toNat_sub1, toNat_add1, decide_true, decide_false, Bool.not_true, Bool.not_false, if_true, if_false, Bool.false_eq_true, reduceCtorEq, h00, r_gdU]
  refine r_use fok33 (closed_calls (p : Int) (q : Int) w4 (hr0.kp k04)) rfl ?_
  rintro _ w5 ⟨rfl, k5⟩
  refine ⟨_, rfl, ?_⟩
  have k05 := Kp.trans k04 k5
  have hpq : ∃ n e : Int, closeV l p q = .tuple #[.int .i64 n, .int .i64 e] ∧ ((1 ≤ n ∧ e = 0) ∨ (n = 0 ∧ e = 8)) := by
    rw [closeV, if_pos (ord_zero hset m1 m2), limV]
    simp only [Int.toNat_natCast]
    split
    · exact ⟨_, _, rfl, .inr ⟨rfl, rfl⟩⟩
    · exact ⟨_, _, rfl, .inl ⟨by omega, rfl⟩⟩
  obtain ⟨n1, e1, hv1, hn1⟩ := hpq
  rw [hv1]
  simp (disch := omega) only [r_ln, r_pick, r_pickT, r_pickF, r_condT, r_condF, r_gdTT, r_gdFF, r_gdTF, r_gdFT, r_gqTT, r_gqFF, r_gqTF, r_gqFT, r_not, r_lss, r_leq, r_gtr, r_geq, r_eql, r_neq, r_add, r_sub, r_min2, r_max2, r_min3, r_max3, r_fa, r_iaS, r_iaA, r_ex2a, r_ex2b, r_ex3a, r_ex3b, r_ex3c, r_nc, r_keepE, Nat.zero_add, Nat.add_zero, Nat.mul_one, Int.toNat_natCast, toNat_sub1, toNat_add1, decide_true, decide_false, Bool.not_true, Bool.not_false, if_true, if_false, Bool.false_eq_true, reduceCtorEq]
  refine r_use fok33 (closed_calls (a : Int) (b : Int) w5 (hr0.kp k05)) rfl ?_
  rintro _ w6 ⟨rfl, k6⟩
  refine ⟨_, rfl, ?_⟩
  have k06 := Kp.trans k05 k6
  have hab : ∃ n e : Int, closeV l a b = .tuple #[.int .i64 n, .int .i64 e] ∧ (a * b < p * q → n = 0 ∧ e = 0) := by
    rw [closeV, if_pos (ord_zero hset hA hB), limV]
    simp only [Int.toNat_natCast]
    split
    · exact ⟨_, _, rfl, fun h => by rw [m4 a b hA hB h] at *; omega⟩
    · exact ⟨_, _, rfl, fun h => ⟨m4 a b hA hB h, rfl⟩⟩
  obtain ⟨n2, e2, hv2, hn2⟩ := hab
  rw [hv2]
  have fin6 : callW Try.prog (.func (.func 18) #[] #[]) [] w6 fun t112 w => (Ending.returned t112 = .returned (.bool true) ∧ Kp wz w) := by
    refine r_use fok18 (fin w6 k06) rfl ?_
    rintro _ w7 ⟨rfl, k7⟩
    exact ⟨_, rfl, by first | rfl | trivial, k7⟩
  have tail : ∀ K : Prop, K → (∀ t94 : Value, t94 = .bool false →
      gd t94 false (fun k => k (.int .i64 a) w6) w6 fun t96 w =>
      gd t94 false (fun k => k (.int .i64 b) w) w fun t97 w =>
      gd t94 false (fun k => binQ Try.prog w .mul 3 false t96 t97 fun v => k v w) w fun t98 w =>
      gd t94 false (fun k => k (.int .i64 p) w) w fun t99 w =>
      gd t94 false (fun k => k (.int .i64 q) w) w fun t100 w =>
      gd t94 false (fun k => binQ Try.prog w .mul 3 false t99 t100 fun v => k v w) w fun t101 w =>
      gd t94 false (fun k => binQ Try.prog w .lss 3 false t98 t101 fun v => k v w) w fun t102 w =>
      gd t94 false (fun k => k t102 w) w fun t103 w =>
      gd t103 true (fun k => k (.int .i64 n2) w) w fun t104 w =>
      gd t103 true (fun k => binQ Try.prog w .neq 3 true t104 (.int .i64 0) fun v => k v w) w fun t105 w =>
      gd t103 true (fun k => k t105 w) w fun t106 w =>
      gd t106 false (fun k => k (.int .i64 e2) w) w fun t107 w =>
      gd t106 false (fun k => binQ Try.prog w .neq 26 true t107 (.int .i64 0) fun v => k v w) w fun t108 w =>
      gd t103 true (fun k => pickQ t106 (.bool true) t108 fun v => k v w) w fun t109 w =>
      gd t94 false (fun k => pickQ t103 t109 (.bool false) fun v => k v w) w fun t110 w =>
      pickQ t94 (.bool true) t110 fun t111 =>
      condW t111 (
        (fun e w' => e = Ending.returned (.bool true) ∧ Kp wz w') (.returned (.bool false)) w
      ) (
        callW Try.prog (.func (.func 18) #[] #[]) [] w fun t112 w =>
        (Ending.returned t112 = .returned (.bool true) ∧ Kp wz w)
      )) := fun _ _ t94 e => by
    subst e
    have hm1 : a * b ≤ 4 * 4 := Nat.mul_le_mul hA.2 hB.2
    have hm2 : p * q ≤ 4 * 4 := Nat.mul_le_mul m1.2 m2.2
    simp only [r_gdFF]
    rw [r_mulN _ _ (by omega), r_mulN _ _ (by omega)]
    by_cases hc : a * b < p * q
    · obtain ⟨rfl, rfl⟩ := hn2 hc
      have hc' : ((a * b : Nat) : Int) < ((p * q : Nat) : Int) := by omega
      simp (disch := omega) only [r_ln, r_pick, r_pickT, r_pickF, r_condT, r_condF, r_gdTT, r_gdFF, r_gdTF, r_gdFT, r_gqTT, r_gqFF, r_gqTF, r_gqFT, r_not, r_lss, r_leq, r_gtr, r_geq, r_eql, r_neq, r_add, r_sub, r_min2, r_max2, r_min3, r_max3, r_fa, r_iaS, r_iaA, r_ex2a, r_ex2b, r_ex3a, r_ex3b, r_ex3c, r_nc, r_keepE, Nat.zero_add, Nat.add_zero, Nat.mul_one, Int.toNat_natCast, toNat_sub1, toNat_add1, decide_true, decide_false, Bool.not_true, Bool.not_false, if_true, if_false, Bool.false_eq_true, reduceCtorEq, decide_eq_true hc', h00, r_gdU]
      exact fin6
    · have hc' : ¬ ((a * b : Nat) : Int) < ((p * q : Nat) : Int) := by omega
      simp (disch := omega) only [r_ln, r_pick, r_pickT, r_pickF, r_condT, r_condF, r_gdTT, r_gdFF, r_gdTF, r_gdFT, r_gqTT, r_gqFF, r_gqTF, r_gqFT, r_not, r_lss, r_leq, r_gtr, r_geq, r_eql, r_neq, r_add, r_sub, r_min2, r_max2, r_min3, r_max3, r_fa, r_iaS, r_iaA, r_ex2a, r_ex2b, r_ex3a, r_ex3b, r_ex3c, r_nc, r_keepE, Nat.zero_add, Nat.add_zero, Nat.mul_one, Int.toNat_natCast, toNat_sub1, toNat_add1, decide_true, decide_false, Bool.not_true, Bool.not_false, if_true, if_false, Bool.false_eq_true, reduceCtorEq, hc', r_gdU]
      exact fin6
  rcases hn1 with ⟨hn, rfl⟩ | ⟨rfl, rfl⟩
  · have hn' : ¬ n1 < 1 := by omega
    simp (disch := omega) only [r_ex2a, r_ex2b, r_neq, h00, Bool.not_true, r_gdFF, r_lss, hn', decide_false, r_gdFT, r_gdU, r_pickF]
    have := tail True trivial (.bool false) rfl
    simp (disch := omega) only [r_gdFF] at this
    exact this
  · have h01 : decide ((0 : Int) < 1) = true := by decide
    have h88 : decide ((8 : Int) = 8) = true := rfl
    simp (disch := omega) only [r_ex2a, r_ex2b, r_neq, h00, Bool.not_true, r_gdFF, r_lss, h01, r_gdTT, h88, r_pickT, r_pickF]
    have := tail True trivial (.bool false) rfl
    simp (disch := omega) only [r_gdFF] at this
    exact this

end Go.Proofs.Ytgalbokmgffhkaa

/- What a proof says, plainly: the program's numbers and the specification's lists. -/
namespace Go.Proofs.Ytgalbokmgffhkaa
open Go.Wg

def standsB (proof : List (List Int)) (s : List Int) (k : Int) : Bool := proof.any fun p => decide (p.getD 0 0 < k) && decide (p.drop 1 = s)
theorem stands_iff {proof : List (List Int)} {s : List Int} {k : Int} : standsB proof s k = true ↔ ∃ p ∈ proof, p.getD 0 0 < k ∧ p.drop 1 = s := by
  simp only [standsB, List.any_eq_true, Bool.and_eq_true, decide_eq_true_eq]

theorem dead_inv : ∀ rev : List (List Int), (∀ p ∈ rev, 1 ≤ p.getD 0 0) → rev.Pairwise (fun q p => p.getD 0 0 ≤ q.getD 0 0) →
    (∀ c, deadL rev.reverse c ≠ 0 → ∃ p ∈ rev, code (p.drop 1) = c ∧ deadL rev.reverse c = p.getD 0 0) ∧ ∀ p ∈ rev, deadL rev.reverse (code (p.drop 1)) ≠ 0 ∧ deadL rev.reverse (code (p.drop 1)) ≤ p.getD 0 0
  | [], _, _ => ⟨fun c h => absurd rfl h, by simp⟩
  | q :: rev, h1, h2 => by
    obtain ⟨i1, i2⟩ := dead_inv rev (fun p hp => h1 p (by simp [hp])) (List.pairwise_cons.1 h2).2
    have hq := (List.pairwise_cons.1 h2).1
    have hq1 := h1 q (by simp)
    have e : deadL (q :: rev).reverse = deadF (deadL rev.reverse) q := by
      rw [List.reverse_cons, deadL, List.foldl_append]; rfl
    rw [e]
    by_cases h0 : deadL rev.reverse (code (q.drop 1)) = 0
    · rw [deadF, if_pos h0]
      refine ⟨fun c hc => ?_, fun p hp => ?_⟩
      · by_cases hcq : c = code (q.drop 1)
        · subst hcq
          exact ⟨q, by simp, rfl, if_pos rfl⟩
        · have eu : upd (deadL rev.reverse) (code (q.drop 1)) (q.getD 0 0) c = deadL rev.reverse c := if_neg hcq
          rw [eu] at hc ⊢
          obtain ⟨p, hp, h⟩ := i1 c hc
          exact ⟨p, by simp [hp], h⟩
      · by_cases hcq : code (p.drop 1) = code (q.drop 1)
        · have eu : upd (deadL rev.reverse) (code (q.drop 1)) (q.getD 0 0) (code (p.drop 1)) = q.getD 0 0 := if_pos hcq
          rw [eu]
          rcases List.mem_cons.1 hp with rfl | hp
          · exact ⟨by omega, Int.le_refl _⟩
          · have := (i2 p hp).1
            rw [hcq] at this
            exact absurd h0 this
        · have eu : upd (deadL rev.reverse) (code (q.drop 1)) (q.getD 0 0) (code (p.drop 1)) = deadL rev.reverse (code (p.drop 1)) := if_neg hcq
          rw [eu]
          rcases List.mem_cons.1 hp with rfl | hp
          · exact absurd rfl hcq
          · exact i2 p hp
    · rw [deadF, if_neg h0]
      refine ⟨fun c hc => ?_, fun p hp => ?_⟩
      · obtain ⟨p, hp, h⟩ := i1 c hc
        exact ⟨p, by simp [hp], h⟩
      · rcases List.mem_cons.1 hp with rfl | hp
        · refine ⟨h0, ?_⟩
          obtain ⟨p', hp', _, e'⟩ := i1 _ h0
          rw [e']
          exact hq p' hp'
        · exact i2 p hp

theorem cmp_head {a b : List Int} (ha : 0 < a.length) (hb : 0 < b.length) (h : cmpL a b < 0) : a.getD 0 0 ≤ b.getD 0 0 := by
  match a, b, ha, hb with
  | x :: a, y :: b, _, _ =>
    simp only [cmpL] at h
    simp only [List.getD_cons_zero]
    split at h
    · omega
    · split at h
      · simp at h
      · omega

theorem okP.row {W H : Nat} {proof : List (List Int)} (h : okP W H proof) {p : List Int} (hp : p ∈ proof) : p.length = W + 1 ∧ 1 ≤ p.getD 0 0 ∧ p.getD 0 0 < H ∧ ∀ x ∈ p.drop 1, 0 ≤ x ∧ x ≤ 7 := by
  obtain ⟨i, hi, rfl⟩ := List.getElem_of_mem hp
  have := (h i hi).1
  rw [getD_lt _ _ _ hi] at this
  simp only [rowB, Bool.and_eq_true, decide_eq_true_eq, List.all_eq_true, colB] at this
  exact ⟨this.1.1.1, this.1.1.2, this.1.2, this.2⟩

theorem okP.heads {W H : Nat} {proof : List (List Int)} (h : okP W H proof) : ∀ j i, i < j → j < proof.length → (proof.getD i []).getD 0 0 ≤ (proof.getD j []).getD 0 0
  | 0, i, hij, _ => absurd hij (by omega)
  | j + 1, i, hij, hj => by
    have h1 := (h (j + 1) hj).2
    simp only [upB, Bool.or_eq_true, decide_eq_true_eq] at h1
    have h2 : cmpL (proof.getD j []) (proof.getD (j + 1) []) < 0 := by
      rcases h1 with h1 | h1
      · omega
      · exact h1
    have l1 := (h.row (getD_mem (d := []) (show j < proof.length by omega))).1
    have l2 := (h.row (getD_mem (d := []) hj)).1
    have h3 := cmp_head (by omega) (by omega) h2
    by_cases e : i = j
    · subst e; exact h3
    · exact Int.le_trans (okP.heads h j i (by omega) (by omega)) h3

theorem dead_ok {W H : Nat} {proof : List (List Int)} (h : okP W H proof) :
    (∀ c, deadL proof c ≠ 0 → ∃ p ∈ proof, code (p.drop 1) = c ∧ deadL proof c = p.getD 0 0) ∧ ∀ p ∈ proof, deadL proof (code (p.drop 1)) ≠ 0 ∧ deadL proof (code (p.drop 1)) ≤ p.getD 0 0 := by
  have hpw : proof.reverse.Pairwise (fun q p => p.getD 0 0 ≤ q.getD 0 0) := by
    rw [List.pairwise_reverse, List.pairwise_iff_getElem]
    intro i j hi hj hij
    have := h.heads j i hij hj
    rwa [getD_lt _ _ _ hi, getD_lt _ _ _ hj] at this
  have := dead_inv proof.reverse (fun p hp => (h.row (List.mem_reverse.1 hp)).2.1) hpw
  simpa using this

theorem dead_stands {W H : Nat} {proof : List (List Int)} (h : okP W H proof) {s : List Int} (hs : s.length = W) (hc : ∀ x ∈ s, 0 ≤ x ∧ x ≤ 7) {k : Int} : standsB proof s k = true ↔ deadL proof (code s) ≠ 0 ∧ deadL proof (code s) < k := by
  obtain ⟨d1, d2⟩ := dead_ok h
  rw [stands_iff]
  constructor
  · rintro ⟨p, hp, hk, rfl⟩
    have := d2 p hp
    exact ⟨this.1, by omega⟩
  · rintro ⟨h0, hk⟩
    obtain ⟨p, hp, e1, e2⟩ := d1 _ h0
    have hr := h.row hp
    refine ⟨p, hp, by omega, code_inj (by simp; omega) hr.2.2.2 hc e1⟩

/-- A row's colours. -/
theorem row_cols {l : List Tile} (hl : ∀ t ∈ l, colsB t = true) {r : List Nat} (hr : ∀ i ∈ r, i < l.length) : (∀ x ∈ norths l r, 0 ≤ x ∧ x ≤ 7) ∧ ∀ x ∈ souths l r, 0 ≤ x ∧ x ≤ 7 := by
  constructor
  · intro x hx
    simp only [norths, List.mem_map] at hx
    obtain ⟨i, hi, rfl⟩ := hx
    exact (cols_range (hl (tl l i) (by unfold tl; exact getD_mem (hr i hi)))).1
  · intro x hx
    simp only [souths, List.mem_map] at hx
    obtain ⟨i, hi, rfl⟩ := hx
    exact (cols_range (hl (tl l i) (by unfold tl; exact getD_mem (hr i hi)))).2.2.1

/-- The program's numbers say what the specification's lists say. -/
theorem fin_iff {l : List Tile} {W H : Nat} {proof : List (List Int)} (hl : ∀ t ∈ l, colsB t = true) (h : okP W H proof) :
    finP (linesL l W) (deadL proof) ↔ (∀ p ∈ proof, ∀ s ∈ rfrom l (some (p.drop 1)) W [] 255, standsB proof s (p.getD 0 0) = true) ∧ ∀ s ∈ rfrom l none W [] 255, standsB proof s H = true := by
  obtain ⟨d1, d2⟩ := dead_ok h
  have under : ∀ p ∈ proof, ∀ s, s ∈ rfrom l (some (p.drop 1)) W [] 255 ↔ ∃ r ∈ rowsL l W, norths l r = p.drop 1 ∧ souths l r = s := fun p hp s => by
    have := (h.row hp).1
    have hlen : (p.drop 1).length = W := by simp; omega
    have hm := mem_under hl (n := p.drop 1) (s := s)
    rw [hlen] at hm
    exact hm
  have rowOk : ∀ r ∈ rowsL l W, (souths l r).length = W ∧ (∀ x ∈ norths l r, 0 ≤ x ∧ x ≤ 7) ∧ (∀ x ∈ souths l r, 0 ≤ x ∧ x ≤ 7) := fun r hr => by
    obtain ⟨h1, h2, _⟩ := mem_rowsL.1 hr
    exact ⟨by simp [souths, h1], row_cols hl h2⟩
  constructor
  · rintro ⟨hA, hB⟩
    constructor
    · intro p hp s hs
      obtain ⟨r, hr, e1, rfl⟩ := (under p hp s).1 hs
      obtain ⟨g1, _, g2⟩ := rowOk r hr
      rw [dead_stands h g1 g2]
      have hx : lineOf l r ∈ linesL l W := List.mem_map.2 ⟨r, hr, rfl⟩
      have hB' := hB (code (p.drop 1)) (d2 p hp).1 _ hx (by show code (norths l r) = _; rw [e1])
      refine ⟨hA _ hx, ?_⟩
      have : deadL proof (code (souths l r)) < deadL proof (code (p.drop 1)) := hB'
      have := (d2 p hp).2
      omega
    · intro s hs
      obtain ⟨r, hr, rfl⟩ := (mem_firsts hl).1 hs
      obtain ⟨g1, _, g2⟩ := rowOk r hr
      have hx : lineOf l r ∈ linesL l W := List.mem_map.2 ⟨r, hr, rfl⟩
      have h0 := hA _ hx
      obtain ⟨p, hp, e1, e2⟩ := d1 _ h0
      rw [dead_stands h g1 g2]
      refine ⟨h0, ?_⟩
      have := (h.row hp).2.2.1
      have e2' : deadL proof (code (souths l r)) = p.getD 0 0 := e2
      omega
  · rintro ⟨hA, hB⟩
    have south : ∀ r ∈ rowsL l W, deadL proof (code (souths l r)) ≠ 0 := fun r hr => by
      obtain ⟨g1, _, g2⟩ := rowOk r hr
      exact ((dead_stands h g1 g2).1 (hB _ ((mem_firsts hl).2 ⟨r, hr, rfl⟩))).1
    constructor
    · intro x hx
      obtain ⟨r, hr, rfl⟩ := List.mem_map.1 hx
      exact south r hr
    · intro c hc x hx hxc
      obtain ⟨r, hr, rfl⟩ := List.mem_map.1 hx
      obtain ⟨g1, g0, g2⟩ := rowOk r hr
      obtain ⟨p, hp, e1, e2⟩ := d1 c hc
      have hrow := h.row hp
      have hn : norths l r = p.drop 1 := by
        obtain ⟨h1, _, _⟩ := mem_rowsL.1 hr
        refine code_inj (by simp [norths, h1]; omega) g0 hrow.2.2.2 ?_
        rw [e1]; exact hxc
      have := hA p hp _ ((under p hp _).2 ⟨r, hr, hn, rfl⟩)
      have := ((dead_stands h g1 g2).1 this).2
      rw [e2]
      exact this

end Go.Proofs.Ytgalbokmgffhkaa
