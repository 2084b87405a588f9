/- Texts of my own, merged by program: Xe Xf Xi. -/
import Derived.Test.YtkdcldbedbagjaaDoorM18
import Derived.Test.YtkdcldbedbagjaaDoorM13
import Derived.Test.YtkdcldbedbagjaaDoorM14
set_option linter.all false
/- Contracts of the reference: Good, Ends. -/
namespace Go.Proofs.YtkdcldbedbagjaaDoor
open Go.Lf Go.RowKit Go.Dt

theorem pair_at2 {w : World} {v : Value} {L : List (Int × Int)} (h : RdW w v L) {i : Nat} (hi : i < L.length) : ∀ K : Value → Prop, (iaS 2 v (.int .i64 i) fun p => ldN 2 w p K) = K (paV2 (L.getD i (0, 0))) := fun K => by
  obtain ⟨b, off, cap, e, _, hc⟩ := h.at (List.getElem?_eq_getElem hi)
  have hii : (i : Int).toNat = i := by omega
  rw [e, r_iaS _ _ _ _ _ _ _ (by omega) (by omega), hii, r_ldCells (n := 2) (l := wC L[i]) rfl hc, getD_lt _ _ _ hi]
  rfl

set_option maxRecDepth 100000 in
set_option maxHeartbeats 1000000 in
theorem good_calls {v : Value} {L : List (Int × Int)} {n : Int} (w : World) (hr : RdW w v L) : Calls Tryd.prog 30 #[.int .i64 n, v] w fun e w' => e = .returned (.int .i64 (netErr n L)) ∧ Kp w w' := by
  obtain ⟨a, cap, ev, _⟩ := hr.len
  have lnv : ∀ K : Value → Prop, ln1 v K = K (.int .i64 L.length) := fun K => by rw [ev]; rfl
  refine lift30 ?_
  unfold S30
  by_cases g1 : n < 2
  · have hE : netErr n L = 2 := by unfold netErr; rw [if_pos (.inl g1)]
    rw [hE]
    simp (disch := omega) only [r_ln, r_pick, r_pickT, r_pickF, r_condT, r_condF, r_gdTT, r_gdFF, r_gdTF, r_gdFT, r_gqTT, r_gqFF, r_gqTF, r_gqFT, r_not, r_lss, r_leq, r_gtr, r_geq, r_eql, r_neq, r_add, r_sub, r_min2, r_max2, r_min3, r_max3, r_fa, r_iaS, r_iaA, r_ex2a, r_ex2b, r_ex3a, r_ex3b, r_ex3c, r_nc, r_keepE, Nat.zero_add, Nat.add_zero, Nat.mul_one, Int.toNat_natCast, toNat_sub1, toNat_add1, decide_true, decide_false, Bool.not_true, Bool.not_false, if_true, if_false, Bool.false_eq_true, reduceCtorEq, r_gdU, decide_eq_true g1]
    exact ⟨by first | rfl | trivial, Kp.refl _⟩
  by_cases g2 : 8 < n
  · have hE : netErr n L = 2 := by unfold netErr; rw [if_pos (.inr g2)]
    rw [hE]
    simp (disch := omega) only [r_ln, r_pick, r_pickT, r_pickF, r_condT, r_condF, r_gdTT, r_gdFF, r_gdTF, r_gdFT, r_gqTT, r_gqFF, r_gqTF, r_gqFT, r_not, r_lss, r_leq, r_gtr, r_geq, r_eql, r_neq, r_add, r_sub, r_min2, r_max2, r_min3, r_max3, r_fa, r_iaS, r_iaA, r_ex2a, r_ex2b, r_ex3a, r_ex3b, r_ex3c, r_nc, r_keepE, Nat.zero_add, Nat.add_zero, Nat.mul_one, Int.toNat_natCast, toNat_sub1, toNat_add1, decide_true, decide_false, Bool.not_true, Bool.not_false, if_true, if_false, Bool.false_eq_true, reduceCtorEq, r_gdU, g1, decide_eq_true g2]
    exact ⟨by first | rfl | trivial, Kp.refl _⟩
  have h12n : ¬ (n < 2 ∨ 8 < n) := by omega
  by_cases g3 : (16 : Int) < (L.length : Int)
  · have hE : netErr n L = 3 := by unfold netErr; rw [if_neg h12n, if_pos (by omega)]
    rw [hE]
    simp (disch := omega) only [r_ln, r_pick, r_pickT, r_pickF, r_condT, r_condF, r_gdTT, r_gdFF, r_gdTF, r_gdFT, r_gqTT, r_gqFF, r_gqTF, r_gqFT, r_not, r_lss, r_leq, r_gtr, r_geq, r_eql, r_neq, r_add, r_sub, r_min2, r_max2, r_min3, r_max3, r_fa, r_iaS, r_iaA, r_ex2a, r_ex2b, r_ex3a, r_ex3b, r_ex3c, r_nc, r_keepE, Nat.zero_add, Nat.add_zero, Nat.mul_one, Int.toNat_natCast, toNat_sub1, toNat_add1, decide_true, decide_false, Bool.not_true, Bool.not_false, if_true, if_false, Bool.false_eq_true, reduceCtorEq, r_gdU, g1, g2, lnv, decide_eq_true g3]
    exact ⟨by first | rfl | trivial, Kp.refl _⟩
  have hE : netErr n L = if L.any (badB n) = true then 2 else 0 := by unfold netErr; rw [if_neg h12n, if_neg (by omega)]
  rw [hE]
  simp (disch := omega) only [r_ln, r_pick, r_pickT, r_pickF, r_condT, r_condF, r_gdTT, r_gdFF, r_gdTF, r_gdFT, r_gqTT, r_gqFF, r_gqTF, r_gqFT, r_not, r_lss, r_leq, r_gtr, r_geq, r_eql, r_neq, r_add, r_sub, r_min2, r_max2, r_min3, r_max3, r_fa, r_iaS, r_iaA, r_ex2a, r_ex2b, r_ex3a, r_ex3b, r_ex3c, r_nc, r_keepE, Nat.zero_add, Nat.add_zero, Nat.mul_one, Int.toNat_natCast, toNat_sub1, toNat_add1, decide_true, decide_false, Bool.not_true, Bool.not_false, if_true, if_false, Bool.false_eq_true, reduceCtorEq, r_gdU, g1, g2, lnv, g3]
  unfold S30L0
  refine ⟨fun t5 wr => ∃ i : Nat, i ≤ L.length ∧ t5 = .int .i64 i ∧ (∀ j, j < i → badB n (L.getD j (0, 0)) = false) ∧ Kp w wr, fun t5 _ => L.length - (intOf t5).toNat, ⟨0, by omega, rfl, fun j hj => by omega, Kp.refl _⟩, ?_⟩
  rintro _ _ wr ⟨i, hi, rfl, hgood, kr⟩
  rw [lnv]
  by_cases hlt : i < L.length
  case neg =>
    have hlt' : ¬ (i : Int) < (L.length : Int) := by omega
    simp only [r_lss, decide_eq_false hlt', r_condF]
    have : ¬ L.any (badB n) = true := fun h => by
      obtain ⟨e, he, hb⟩ := List.any_eq_true.1 h
      obtain ⟨j, hj, rfl⟩ := List.mem_iff_getElem.1 he
      have := hgood j (by omega)
      rw [getD_lt _ _ _ hj, hb] at this
      cases this
    rw [if_neg this]
    exact ⟨by first | rfl | trivial, kr⟩
  have hlt' : (i : Int) < (L.length : Int) := by omega
  simp only [r_lss, decide_eq_true hlt', r_condT]
  rw [pair_at2 (hr.kp kr) hlt]
  generalize hp : L.getD i (0, 0) = p at *
  refine r_box fun b6 w1 e6 s6 h6 k1 => ?_
  have h6' : w1.heap[b6]? = some (.cells #[.int .i64 0, .int .i64 0] 40 (0, 0)) := h6
  have szr := kr.size
  refine st40 h6' fun w2 c2 s2 h2 => ?_
  have k02 : Kp w w2 := Kp.of_chg (Kp.trans kr k1) c2 fun q e => by omega
  have p0 : w2.cell? ⟨b6, 0, none⟩ = some (.int .i64 p.1) := by rw [cell_row h2]; rfl
  have p1 : w2.cell? ⟨b6, 1, none⟩ = some (.int .i64 p.2) := by rw [cell_row h2]; rfl
  have bad : badB n p = true → Ending.returned (.int .i64 2) = .returned (.int .i64 (if L.any (badB n) = true then 2 else 0)) := fun h => by
    rw [if_pos (List.any_eq_true.2 ⟨p, by rw [← hp, getD_lt _ _ _ hlt]; exact List.getElem_mem hlt, h⟩)]
  by_cases q1 : p.1 < 0
  · simp (disch := omega) only [r_ln, r_pick, r_pickT, r_pickF, r_condT, r_condF, r_gdTT, r_gdFF, r_gdTF, r_gdFT, r_gqTT, r_gqFF, r_gqTF, r_gqFT, r_not, r_lss, r_leq, r_gtr, r_geq, r_eql, r_neq, r_add, r_sub, r_min2, r_max2, r_min3, r_max3, r_fa, r_iaS, r_iaA, r_ex2a, r_ex2b, r_ex3a, r_ex3b, r_ex3c, r_nc, r_keepE, Nat.zero_add, Nat.add_zero, Nat.mul_one, Int.toNat_natCast, toNat_sub1, toNat_add1, decide_true, decide_false, Bool.not_true, Bool.not_false, if_true, if_false, Bool.false_eq_true, reduceCtorEq, r_gdU, r_ld p0, r_ld p1, decide_eq_true q1]
    exact ⟨bad (by simp [badB, q1]), k02⟩
  by_cases q2 : n ≤ p.1
  · simp (disch := omega) only [r_ln, r_pick, r_pickT, r_pickF, r_condT, r_condF, r_gdTT, r_gdFF, r_gdTF, r_gdFT, r_gqTT, r_gqFF, r_gqTF, r_gqFT, r_not, r_lss, r_leq, r_gtr, r_geq, r_eql, r_neq, r_add, r_sub, r_min2, r_max2, r_min3, r_max3, r_fa, r_iaS, r_iaA, r_ex2a, r_ex2b, r_ex3a, r_ex3b, r_ex3c, r_nc, r_keepE, Nat.zero_add, Nat.add_zero, Nat.mul_one, Int.toNat_natCast, toNat_sub1, toNat_add1, decide_true, decide_false, Bool.not_true, Bool.not_false, if_true, if_false, Bool.false_eq_true, reduceCtorEq, r_gdU, r_ld p0, r_ld p1, q1, decide_eq_true q2]
    exact ⟨bad (by simp [badB, q2]), k02⟩
  by_cases q3 : p.2 < 0
  · simp (disch := omega) only [r_ln, r_pick, r_pickT, r_pickF, r_condT, r_condF, r_gdTT, r_gdFF, r_gdTF, r_gdFT, r_gqTT, r_gqFF, r_gqTF, r_gqFT, r_not, r_lss, r_leq, r_gtr, r_geq, r_eql, r_neq, r_add, r_sub, r_min2, r_max2, r_min3, r_max3, r_fa, r_iaS, r_iaA, r_ex2a, r_ex2b, r_ex3a, r_ex3b, r_ex3c, r_nc, r_keepE, Nat.zero_add, Nat.add_zero, Nat.mul_one, Int.toNat_natCast, toNat_sub1, toNat_add1, decide_true, decide_false, Bool.not_true, Bool.not_false, if_true, if_false, Bool.false_eq_true, reduceCtorEq, r_gdU, r_ld p0, r_ld p1, q1, q2, decide_eq_true q3]
    exact ⟨bad (by simp [badB, q3]), k02⟩
  by_cases q4 : n ≤ p.2
  · simp (disch := omega) only [r_ln, r_pick, r_pickT, r_pickF, r_condT, r_condF, r_gdTT, r_gdFF, r_gdTF, r_gdFT, r_gqTT, r_gqFF, r_gqTF, r_gqFT, r_not, r_lss, r_leq, r_gtr, r_geq, r_eql, r_neq, r_add, r_sub, r_min2, r_max2, r_min3, r_max3, r_fa, r_iaS, r_iaA, r_ex2a, r_ex2b, r_ex3a, r_ex3b, r_ex3c, r_nc, r_keepE, Nat.zero_add, Nat.add_zero, Nat.mul_one, Int.toNat_natCast, toNat_sub1, toNat_add1, decide_true, decide_false, Bool.not_true, Bool.not_false, if_true, if_false, Bool.false_eq_true, reduceCtorEq, r_gdU, r_ld p0, r_ld p1, q1, q2, q3, decide_eq_true q4]
    exact ⟨bad (by simp [badB, q4]), k02⟩
  by_cases q5 : p.1 = p.2
  · simp (disch := omega) only [r_ln, r_pick, r_pickT, r_pickF, r_condT, r_condF, r_gdTT, r_gdFF, r_gdTF, r_gdFT, r_gqTT, r_gqFF, r_gqTF, r_gqFT, r_not, r_lss, r_leq, r_gtr, r_geq, r_eql, r_neq, r_add, r_sub, r_min2, r_max2, r_min3, r_max3, r_fa, r_iaS, r_iaA, r_ex2a, r_ex2b, r_ex3a, r_ex3b, r_ex3c, r_nc, r_keepE, Nat.zero_add, Nat.add_zero, Nat.mul_one, Int.toNat_natCast, toNat_sub1, toNat_add1, decide_true, decide_false, Bool.not_true, Bool.not_false, if_true, if_false, Bool.false_eq_true, reduceCtorEq, r_gdU, r_ld p0, r_ld p1, q1, q2, q3, q4, decide_eq_true q5]
    exact ⟨bad (by simp [badB, q5]), k02⟩
  simp (disch := omega) only [r_ln, r_pick, r_pickT, r_pickF, r_condT, r_condF, r_gdTT, r_gdFF, r_gdTF, r_gdFT, r_gqTT, r_gqFF, r_gqTF, r_gqFT, r_not, r_lss, r_leq, r_gtr, r_geq, r_eql, r_neq, r_add, r_sub, r_min2, r_max2, r_min3, r_max3, r_fa, r_iaS, r_iaA, r_ex2a, r_ex2b, r_ex3a, r_ex3b, r_ex3c, r_nc, r_keepE, Nat.zero_add, Nat.add_zero, Nat.mul_one, Int.toNat_natCast, toNat_sub1, toNat_add1, decide_true, decide_false, Bool.not_true, Bool.not_false, if_true, if_false, Bool.false_eq_true, reduceCtorEq, r_gdU, r_ld p0, r_ld p1, q1, q2, q3, q4, decide_eq_false q5]
  refine ⟨⟨i + 1, by omega, by go_num, fun j hj => ?_, k02⟩, by simp only [intOf]; omega⟩
  by_cases e : j = i
  · rw [e, hp]; simp [badB, q1, q2, q3, q4, q5]
  · exact hgood j (by omega)

set_option maxRecDepth 100000 in
set_option maxHeartbeats 1000000 in
theorem ends_calls {v : Value} {L : List (Int × Int)} {n s t : Int} (w : World) (hr : RdW w v L) : Calls Tryd.prog 31 #[.int .i64 n, v, .int .i64 s, .int .i64 t] w fun e w' => e = .returned (.int .i64 (endErr n L s t)) ∧ Kp w w' := by
  refine lift31 ?_
  unfold S31
  refine r_use fok30 (good_calls (n := n) w hr) rfl ?_
  rintro _ w1 ⟨rfl, k1⟩
  refine ⟨_, rfl, ?_⟩
  unfold endErr
  by_cases g0 : netErr n L = 0
  case neg =>
    rw [if_neg g0]
    simp (disch := omega) only [r_ln, r_pick, r_pickT, r_pickF, r_condT, r_condF, r_gdTT, r_gdFF, r_gdTF, r_gdFT, r_gqTT, r_gqFF, r_gqTF, r_gqFT, r_not, r_lss, r_leq, r_gtr, r_geq, r_eql, r_neq, r_add, r_sub, r_min2, r_max2, r_min3, r_max3, r_fa, r_iaS, r_iaA, r_ex2a, r_ex2b, r_ex3a, r_ex3b, r_ex3c, r_nc, r_keepE, Nat.zero_add, Nat.add_zero, Nat.mul_one, Int.toNat_natCast, toNat_sub1, toNat_add1, decide_true, decide_false, Bool.not_true, Bool.not_false, if_true, if_false, Bool.false_eq_true, reduceCtorEq, r_gdU, decide_eq_false g0]
    exact ⟨by first | rfl | trivial, k1⟩
  rw [if_pos g0]
  simp only [r_eql, decide_eq_true g0]
  by_cases q1 : s < 0
  · rw [if_pos (.inl q1)]
    simp (disch := omega) only [r_ln, r_pick, r_pickT, r_pickF, r_condT, r_condF, r_gdTT, r_gdFF, r_gdTF, r_gdFT, r_gqTT, r_gqFF, r_gqTF, r_gqFT, r_not, r_lss, r_leq, r_gtr, r_geq, r_eql, r_neq, r_add, r_sub, r_min2, r_max2, r_min3, r_max3, r_fa, r_iaS, r_iaA, r_ex2a, r_ex2b, r_ex3a, r_ex3b, r_ex3c, r_nc, r_keepE, Nat.zero_add, Nat.add_zero, Nat.mul_one, Int.toNat_natCast, toNat_sub1, toNat_add1, decide_true, decide_false, Bool.not_true, Bool.not_false, if_true, if_false, Bool.false_eq_true, reduceCtorEq, r_gdU, decide_eq_true q1]
    exact ⟨by first | rfl | trivial, k1⟩
  by_cases q2 : n ≤ s
  · rw [if_pos (by omega)]
    simp (disch := omega) only [r_ln, r_pick, r_pickT, r_pickF, r_condT, r_condF, r_gdTT, r_gdFF, r_gdTF, r_gdFT, r_gqTT, r_gqFF, r_gqTF, r_gqFT, r_not, r_lss, r_leq, r_gtr, r_geq, r_eql, r_neq, r_add, r_sub, r_min2, r_max2, r_min3, r_max3, r_fa, r_iaS, r_iaA, r_ex2a, r_ex2b, r_ex3a, r_ex3b, r_ex3c, r_nc, r_keepE, Nat.zero_add, Nat.add_zero, Nat.mul_one, Int.toNat_natCast, toNat_sub1, toNat_add1, decide_true, decide_false, Bool.not_true, Bool.not_false, if_true, if_false, Bool.false_eq_true, reduceCtorEq, r_gdU, q1, decide_eq_true q2]
    exact ⟨by first | rfl | trivial, k1⟩
  by_cases q3 : t < 0
  · rw [if_pos (by omega)]
    simp (disch := omega) only [r_ln, r_pick, r_pickT, r_pickF, r_condT, r_condF, r_gdTT, r_gdFF, r_gdTF, r_gdFT, r_gqTT, r_gqFF, r_gqTF, r_gqFT, r_not, r_lss, r_leq, r_gtr, r_geq, r_eql, r_neq, r_add, r_sub, r_min2, r_max2, r_min3, r_max3, r_fa, r_iaS, r_iaA, r_ex2a, r_ex2b, r_ex3a, r_ex3b, r_ex3c, r_nc, r_keepE, Nat.zero_add, Nat.add_zero, Nat.mul_one, Int.toNat_natCast, toNat_sub1, toNat_add1, decide_true, decide_false, Bool.not_true, Bool.not_false, if_true, if_false, Bool.false_eq_true, reduceCtorEq, r_gdU, q1, q2, decide_eq_true q3]
    exact ⟨by first | rfl | trivial, k1⟩
  by_cases q4 : n ≤ t
  · rw [if_pos (by omega)]
    simp (disch := omega) only [r_ln, r_pick, r_pickT, r_pickF, r_condT, r_condF, r_gdTT, r_gdFF, r_gdTF, r_gdFT, r_gqTT, r_gqFF, r_gqTF, r_gqFT, r_not, r_lss, r_leq, r_gtr, r_geq, r_eql, r_neq, r_add, r_sub, r_min2, r_max2, r_min3, r_max3, r_fa, r_iaS, r_iaA, r_ex2a, r_ex2b, r_ex3a, r_ex3b, r_ex3c, r_nc, r_keepE, Nat.zero_add, Nat.add_zero, Nat.mul_one, Int.toNat_natCast, toNat_sub1, toNat_add1, decide_true, decide_false, Bool.not_true, Bool.not_false, if_true, if_false, Bool.false_eq_true, reduceCtorEq, r_gdU, q1, q2, q3, decide_eq_true q4]
    exact ⟨by first | rfl | trivial, k1⟩
  by_cases q5 : s = t
  · rw [if_pos (by omega)]
    simp (disch := omega) only [r_ln, r_pick, r_pickT, r_pickF, r_condT, r_condF, r_gdTT, r_gdFF, r_gdTF, r_gdFT, r_gqTT, r_gqFF, r_gqTF, r_gqFT, r_not, r_lss, r_leq, r_gtr, r_geq, r_eql, r_neq, r_add, r_sub, r_min2, r_max2, r_min3, r_max3, r_fa, r_iaS, r_iaA, r_ex2a, r_ex2b, r_ex3a, r_ex3b, r_ex3c, r_nc, r_keepE, Nat.zero_add, Nat.add_zero, Nat.mul_one, Int.toNat_natCast, toNat_sub1, toNat_add1, decide_true, decide_false, Bool.not_true, Bool.not_false, if_true, if_false, Bool.false_eq_true, reduceCtorEq, r_gdU, q1, q2, q3, q4, decide_eq_true q5]
    exact ⟨by first | rfl | trivial, k1⟩
  rw [if_neg (by omega)]
  simp (disch := omega) only [r_ln, r_pick, r_pickT, r_pickF, r_condT, r_condF, r_gdTT, r_gdFF, r_gdTF, r_gdFT, r_gqTT, r_gqFF, r_gqTF, r_gqFT, r_not, r_lss, r_leq, r_gtr, r_geq, r_eql, r_neq, r_add, r_sub, r_min2, r_max2, r_min3, r_max3, r_fa, r_iaS, r_iaA, r_ex2a, r_ex2b, r_ex3a, r_ex3b, r_ex3c, r_nc, r_keepE, Nat.zero_add, Nat.add_zero, Nat.mul_one, Int.toNat_natCast, toNat_sub1, toNat_add1, decide_true, decide_false, Bool.not_true, Bool.not_false, if_true, if_false, Bool.false_eq_true, reduceCtorEq, r_gdU, q1, q2, q3, q4, decide_eq_false q5]
  exact ⟨by rw [g0], k1⟩

end Go.Proofs.YtkdcldbedbagjaaDoor

/- Contracts of the statement SquareKirchhoff: laplacian, determinant. -/
namespace Go.Proofs.YtkdcldbedbagjaaDoor
open Go.Lf Go.RowKit Go.Dt

def SameW (a b : World) : Prop := a = b
theorem wire_two {w : World} {v : Value} {ws : List Wr} (h : Rd 2 wN w v ws) {k : Nat} (hk : k < ws.length) : ∃ b o, (∀ K : Value → Prop, iaS 2 v (.int .i64 k) K = K (.pointer (some ⟨b, o, none⟩))) ∧ w.cell? ⟨b, o + 0, none⟩ = some (.int .i64 (ws.getD k (0, 0)).1) ∧ w.cell? ⟨b, o + 1, none⟩ = some (.int .i64 (ws.getD k (0, 0)).2) := by
  obtain ⟨b, off, cap, e, _, hc⟩ := h.at (List.getElem?_eq_getElem hk)
  have hii : (k : Int).toNat = k := by omega
  refine ⟨b, off + k * 2, fun K => by rw [e, r_iaS _ _ _ _ _ _ _ (by omega) (by omega), hii], ?_, ?_⟩
  · rw [getD_lt _ _ _ hk]; exact hc 0 _ rfl
  · rw [getD_lt _ _ _ hk]; exact hc 1 _ rfl

theorem ends_val (e : Wr) (h : e.1 ≠ e.2) (i j : Nat) : ends e i * ends e j = if i = j then (if e.1 = i ∨ e.2 = i then 1 else 0) else (if (e.1 = i ∧ e.2 = j) ∨ (e.1 = j ∧ e.2 = i) then -1 else 0) := by
  obtain ⟨a, b⟩ := e
  simp only at h
  unfold ends
  have u : ∀ x y : Nat, unit x y = if x = y then 1 else 0 := fun x y => by
    show (if y = x then (1 : Int) else 0) = _
    by_cases h : x = y
    · rw [if_pos h, if_pos h.symm]
    · rw [if_neg h, if_neg (Ne.symm h)]
  simp only [u]
  by_cases h1 : a = i <;> by_cases h2 : b = i <;> by_cases h3 : a = j <;> by_cases h4 : b = j <;> by_cases h5 : i = j <;> first | omega | (have h6 : ¬ j = i := fun e => h5 e.symm; simp [h1, h2, h3, h4, h5, h6]) | simp [h1, h2, h3, h4, h5]

set_option maxRecDepth 100000 in
set_option maxHeartbeats 2000000 in
theorem r33_2 {n i j base : Nat} {ws : List Wr} {v t11 : Value} {l : List Int} {w : World} {k3 : Value → World → Prop} (hi : i < n) (hj : j < n) (hn : n ≤ 8) (hr : Rd 2 wN w v ws) (hwf : Wf n ws) (hws : ws.length ≤ 16)
    (hI : IntsAt base w t11 l) (hb : base ≤ w.heap.size) (hl : l.length ≤ 8) (hk : ∀ v' w', IntsAt base w' v' (l ++ [lap ws i j]) → Chg (fun q => t11.ownBlock = some q) w w' → k3 v' w') :
    S33L2 v (.int .i64 i) t11 (.int .i64 j) k3 w := by
  obtain ⟨va, vc, ev, _⟩ := hr.len
  have lnv : ∀ K : Value → Prop, ln1 v K = K (.int .i64 ws.length) := fun K => by rw [ev]; rfl
  unfold S33L2
  refine ⟨fun t13 t14 wr => ∃ k : Nat, k ≤ ws.length ∧ t13 = .int .i64 (lap (ws.take k) i j) ∧ t14 = .int .i64 k ∧ (lap (ws.take k) i j).natAbs ≤ k ∧ SameW w wr, fun _ t14 _ => ws.length - (intOf t14).toNat, ⟨0, by omega, rfl, rfl, by simp [lap], rfl⟩, ?_⟩
  rintro _ _ _ wr ⟨k, hk1, rfl, rfl, habs, heq⟩
  obtain rfl : w = wr := heq
  rw [lnv]
  by_cases hlt : k < ws.length
  case neg =>
    have hlt' : ¬ (k : Int) < (ws.length : Int) := by omega
    simp only [r_lss, decide_eq_false hlt', r_condF]
    rw [List.take_of_length_le (by omega)]
    refine r_pushRec (x := lap ws i j) slt34 iC_len rfl (bs34 _ _ _) (by intro u hu; simp [iC] at hu; rw [hu]; rfl) (by omega) hI (by omega) hb fun v' w' o1 c1 _ => ?_
    exact hk v' w' o1 c1
  have hlt' : (k : Int) < (ws.length : Int) := by omega
  simp only [r_lss, decide_eq_true hlt', r_condT]
  obtain ⟨b, o, ia, cA, cB⟩ := wire_two hr hlt
  have hw := hwf (ws.getD k (0, 0)) (by rw [getD_lt _ _ _ hlt]; exact List.getElem_mem hlt)
  have hts : ws.take (k + 1) = ws.take k ++ [ws.getD k (0, 0)] := by rw [List.take_succ_eq_append_getElem hlt, getD_lt _ _ _ hlt]
  have hnext : lap (ws.take (k + 1)) i j = lap (ws.take k) i j + ends (ws.getD k (0, 0)) i * ends (ws.getD k (0, 0)) j := by rw [hts, lap_snoc]
  have hval := ends_val (ws.getD k (0, 0)) hw.2.2 i j
  rw [Nat.add_zero] at cA
  generalize ws.getD k (0, 0) = e at *
  obtain ⟨A, B⟩ := e
  simp only at cA cB hw hval
  have close : ∀ x : Int, x = lap (ws.take (k + 1)) i j → (∃ k' : Nat, k' ≤ ws.length ∧ Value.int .i64 x = .int .i64 (lap (ws.take k') i j) ∧ Value.int .i64 ((k : Int) + 1) = .int .i64 k' ∧ (lap (ws.take k') i j).natAbs ≤ k' ∧ SameW w w) ∧ ws.length - (intOf (.int .i64 ((k : Int) + 1))).toNat < ws.length - (intOf (.int .i64 (k : Int))).toNat := fun x hx => by
    refine ⟨⟨k + 1, by omega, by rw [hx], by go_num, ?_, rfl⟩, by simp only [intOf]; omega⟩
    rw [hnext, hval]
    split <;> split <;> omega
  by_cases hij : i = j
  · subst hij
    rw [if_pos rfl] at hval
    by_cases hA : A = i
    · have hA' : (A : Int) = (i : Int) := by omega
      rw [if_pos (.inl hA)] at hval
      simp (disch := omega) only [r_ln, r_pick, r_pickT, r_pickF, r_condT, r_condF, r_gdTT, r_gdFF, r_gdTF, r_gdFT, r_gqTT, r_gqFF, r_gqTF, r_gqFT, r_not, r_lss, r_leq, r_gtr, r_geq, r_eql, r_neq, r_add, r_sub, r_min2, r_max2, r_min3, r_max3, r_fa, r_iaS, r_iaA, r_ex2a, r_ex2b, r_ex3a, r_ex3b, r_ex3c, r_nc, r_keepE, Nat.zero_add, Nat.add_zero, Nat.mul_one, Int.toNat_natCast, toNat_sub1, toNat_add1, decide_true, decide_false, Bool.not_true, Bool.not_false, if_true, if_false, Bool.false_eq_true, reduceCtorEq, Join, r_gdU, ia, r_ld cA, decide_eq_true hA']
      exact close _ (by rw [hnext, hval] <;> try omega)
    · have hA' : ¬ (A : Int) = (i : Int) := by omega
      by_cases hB : B = i
      · have hB' : (B : Int) = (i : Int) := by omega
        rw [if_pos (.inr hB)] at hval
        simp (disch := omega) only [r_ln, r_pick, r_pickT, r_pickF, r_condT, r_condF, r_gdTT, r_gdFF, r_gdTF, r_gdFT, r_gqTT, r_gqFF, r_gqTF, r_gqFT, r_not, r_lss, r_leq, r_gtr, r_geq, r_eql, r_neq, r_add, r_sub, r_min2, r_max2, r_min3, r_max3, r_fa, r_iaS, r_iaA, r_ex2a, r_ex2b, r_ex3a, r_ex3b, r_ex3c, r_nc, r_keepE, Nat.zero_add, Nat.add_zero, Nat.mul_one, Int.toNat_natCast, toNat_sub1, toNat_add1, decide_true, decide_false, Bool.not_true, Bool.not_false, if_true, if_false, Bool.false_eq_true, reduceCtorEq, Join, r_gdU, ia, r_ld cA, r_ld cB, hA', decide_eq_true hB']
        exact close _ (by rw [hnext, hval] <;> try omega)
      · have hB' : ¬ (B : Int) = (i : Int) := by omega
        rw [if_neg (by omega)] at hval
        simp (disch := omega) only [r_ln, r_pick, r_pickT, r_pickF, r_condT, r_condF, r_gdTT, r_gdFF, r_gdTF, r_gdFT, r_gqTT, r_gqFF, r_gqTF, r_gqFT, r_not, r_lss, r_leq, r_gtr, r_geq, r_eql, r_neq, r_add, r_sub, r_min2, r_max2, r_min3, r_max3, r_fa, r_iaS, r_iaA, r_ex2a, r_ex2b, r_ex3a, r_ex3b, r_ex3c, r_nc, r_keepE, Nat.zero_add, Nat.add_zero, Nat.mul_one, Int.toNat_natCast, toNat_sub1, toNat_add1, decide_true, decide_false, Bool.not_true, Bool.not_false, if_true, if_false, Bool.false_eq_true, reduceCtorEq, Join, r_gdU, ia, r_ld cA, r_ld cB, hA', hB']
        exact close _ (by rw [hnext, hval, Int.add_zero])
  · have hij' : ¬ (i : Int) = (j : Int) := by omega
    rw [if_neg hij] at hval
    by_cases hA : A = i
    · have hA' : (A : Int) = (i : Int) := by omega
      by_cases hB : B = j
      · have hB' : (B : Int) = (j : Int) := by omega
        rw [if_pos (.inl ⟨hA, hB⟩)] at hval
        simp (disch := omega) only [r_ln, r_pick, r_pickT, r_pickF, r_condT, r_condF, r_gdTT, r_gdFF, r_gdTF, r_gdFT, r_gqTT, r_gqFF, r_gqTF, r_gqFT, r_not, r_lss, r_leq, r_gtr, r_geq, r_eql, r_neq, r_add, r_sub, r_min2, r_max2, r_min3, r_max3, r_fa, r_iaS, r_iaA, r_ex2a, r_ex2b, r_ex3a, r_ex3b, r_ex3c, r_nc, r_keepE, Nat.zero_add, Nat.add_zero, Nat.mul_one, Int.toNat_natCast, toNat_sub1, toNat_add1, decide_true, decide_false, Bool.not_true, Bool.not_false, if_true, if_false, Bool.false_eq_true, reduceCtorEq, Join, r_gdU, ia, r_ld cA, r_ld cB, hij', decide_eq_true hA', decide_eq_true hB']
        exact close _ (by rw [hnext, hval] <;> try omega)
      · have hB' : ¬ (B : Int) = (j : Int) := by omega
        have hA2 : ¬ (A : Int) = (j : Int) := by omega
        rw [if_neg (by omega)] at hval
        simp (disch := omega) only [r_ln, r_pick, r_pickT, r_pickF, r_condT, r_condF, r_gdTT, r_gdFF, r_gdTF, r_gdFT, r_gqTT, r_gqFF, r_gqTF, r_gqFT, r_not, r_lss, r_leq, r_gtr, r_geq, r_eql, r_neq, r_add, r_sub, r_min2, r_max2, r_min3, r_max3, r_fa, r_iaS, r_iaA, r_ex2a, r_ex2b, r_ex3a, r_ex3b, r_ex3c, r_nc, r_keepE, Nat.zero_add, Nat.add_zero, Nat.mul_one, Int.toNat_natCast, toNat_sub1, toNat_add1, decide_true, decide_false, Bool.not_true, Bool.not_false, if_true, if_false, Bool.false_eq_true, reduceCtorEq, Join, r_gdU, ia, r_ld cA, r_ld cB, hij', decide_eq_true hA', hB', hA2]
        exact close _ (by rw [hnext, hval, Int.add_zero])
    · have hA' : ¬ (A : Int) = (i : Int) := by omega
      by_cases hA2 : A = j
      · have hA2' : (A : Int) = (j : Int) := by omega
        by_cases hB : B = i
        · have hB' : (B : Int) = (i : Int) := by omega
          rw [if_pos (.inr ⟨hA2, hB⟩)] at hval
          simp (disch := omega) only [r_ln, r_pick, r_pickT, r_pickF, r_condT, r_condF, r_gdTT, r_gdFF, r_gdTF, r_gdFT, r_gqTT, r_gqFF, r_gqTF, r_gqFT, r_not, r_lss, r_leq, r_gtr, r_geq, r_eql, r_neq, r_add, r_sub, r_min2, r_max2, r_min3, r_max3, r_fa, r_iaS, r_iaA, r_ex2a, r_ex2b, r_ex3a, r_ex3b, r_ex3c, r_nc, r_keepE, Nat.zero_add, Nat.add_zero, Nat.mul_one, Int.toNat_natCast, toNat_sub1, toNat_add1, decide_true, decide_false, Bool.not_true, Bool.not_false, if_true, if_false, Bool.false_eq_true, reduceCtorEq, Join, r_gdU, ia, r_ld cA, r_ld cB, hij', hA', decide_eq_true hA2', decide_eq_true hB']
          exact close _ (by rw [hnext, hval] <;> try omega)
        · have hB' : ¬ (B : Int) = (i : Int) := by omega
          rw [if_neg (by omega)] at hval
          simp (disch := omega) only [r_ln, r_pick, r_pickT, r_pickF, r_condT, r_condF, r_gdTT, r_gdFF, r_gdTF, r_gdFT, r_gqTT, r_gqFF, r_gqTF, r_gqFT, r_not, r_lss, r_leq, r_gtr, r_geq, r_eql, r_neq, r_add, r_sub, r_min2, r_max2, r_min3, r_max3, r_fa, r_iaS, r_iaA, r_ex2a, r_ex2b, r_ex3a, r_ex3b, r_ex3c, r_nc, r_keepE, Nat.zero_add, Nat.add_zero, Nat.mul_one, Int.toNat_natCast, toNat_sub1, toNat_add1, decide_true, decide_false, Bool.not_true, Bool.not_false, if_true, if_false, Bool.false_eq_true, reduceCtorEq, Join, r_gdU, ia, r_ld cA, r_ld cB, hij', hA', decide_eq_true hA2', hB']
          exact close _ (by rw [hnext, hval, Int.add_zero])
      · have hA2' : ¬ (A : Int) = (j : Int) := by omega
        rw [if_neg (by omega)] at hval
        simp (disch := omega) only [r_ln, r_pick, r_pickT, r_pickF, r_condT, r_condF, r_gdTT, r_gdFF, r_gdTF, r_gdFT, r_gqTT, r_gqFF, r_gqTF, r_gqFT, r_not, r_lss, r_leq, r_gtr, r_geq, r_eql, r_neq, r_add, r_sub, r_min2, r_max2, r_min3, r_max3, r_fa, r_iaS, r_iaA, r_ex2a, r_ex2b, r_ex3a, r_ex3b, r_ex3c, r_nc, r_keepE, Nat.zero_add, Nat.add_zero, Nat.mul_one, Int.toNat_natCast, toNat_sub1, toNat_add1, decide_true, decide_false, Bool.not_true, Bool.not_false, if_true, if_false, Bool.false_eq_true, reduceCtorEq, Join, r_gdU, ia, r_ld cA, r_ld cB, hij', hA', hA2']
        exact close _ (by rw [hnext, hval, Int.add_zero])

set_option maxRecDepth 100000 in
set_option maxHeartbeats 2000000 in
theorem r33_1 {n i s t base : Nat} {ws : List Wr} {v t9 : Value} {R : List (List Int)} {w : World} {k2 : Value → World → Prop} (hi : i < n) (hn : n ≤ 8) (hr : Rd 2 wN w v ws) (hwf : Wf n ws) (hws : ws.length ≤ 16)
    (hM : IMat base w t9 R) (hb : base ≤ w.heap.size) (hR : R.length ≤ 8) (hk : ∀ v' w', IMat base w' v' (R ++ [(keepN n [(s : Int), (t : Int)]).map fun j => lap ws i j]) → Chg (fun q => base ≤ q) w w' → k2 v' w') :
    S33L1 (.int .i64 n) v (.int .i64 s) (.int .i64 t) t9 (.int .i64 i) k2 w := by
  unfold S33L1
  refine ⟨fun t11 t12 wr => ∃ j : Nat, j ≤ n ∧ t12 = .int .i64 j ∧ IntsAt w.heap.size wr t11 ((keepN j [(s : Int), (t : Int)]).map fun j => lap ws i j) ∧ Kp w wr, fun _ t12 _ => n - (intOf t12).toNat, ⟨0, by omega, rfl, RecAt.nil, Kp.refl _⟩, ?_⟩
  rintro _ t11 _ wr ⟨j, hj, rfl, hP, kr⟩
  by_cases hlt : j < n
  case neg =>
    have hlt' : ¬ (j : Int) < (n : Int) := by omega
    obtain rfl : j = n := by omega
    simp only [r_lss, hlt', decide_false, r_condF]
    obtain ⟨pa, pc, ep, _⟩ := hP.len
    rw [ep]
    rw [ep] at hP
    refine r_pushMat hM kr hP (Nat.le_refl _) (by omega) hb fun v' w' o1 c1 _ => ?_
    obtain ⟨vs, hv1, _⟩ := hM
    refine hk v' w' o1 ((Chg.of_kp kr).trans (c1.mono fun q _ hq => (hv1.lt hq).1))
  have hlt' : (j : Int) < (n : Int) := by omega
  simp only [r_lss, decide_eq_true hlt', r_condT]
  have hks := keepN_succ j [(s : Int), (t : Int)]
  have hkl := keepN_le j [(s : Int), (t : Int)]
  have hsz := kr.size
  refine r_join1 (fun v w3 => IntsAt w.heap.size w3 v ((keepN (j + 1) [(s : Int), (t : Int)]).map fun j => lap ws i j) ∧ Kp w w3) ?_ fun kk hkk => ?_
  · rintro v w3 ⟨g1, g2⟩
    rw [r_add _ _ (by omega) (by omega)]
    exact ⟨⟨j + 1, by omega, by go_num, g1, g2⟩, by simp only [intOf]; omega⟩
  by_cases hs : (j : Int) = (s : Int)
  · rw [if_pos (by simp [hs]), List.append_nil] at hks
    rw [hks] at hkk
    simp (disch := omega) only [r_ln, r_pick, r_pickT, r_pickF, r_condT, r_condF, r_gdTT, r_gdFF, r_gdTF, r_gdFT, r_gqTT, r_gqFF, r_gqTF, r_gqFT, r_not, r_lss, r_leq, r_gtr, r_geq, r_eql, r_neq, r_add, r_sub, r_min2, r_max2, r_min3, r_max3, r_fa, r_iaS, r_iaA, r_ex2a, r_ex2b, r_ex3a, r_ex3b, r_ex3c, r_nc, r_keepE, Nat.zero_add, Nat.add_zero, Nat.mul_one, Int.toNat_natCast, toNat_sub1, toNat_add1, decide_true, decide_false, Bool.not_true, Bool.not_false, if_true, if_false, Bool.false_eq_true, reduceCtorEq, r_gdU, decide_eq_true hs]
    exact hkk _ _ ⟨hP, kr⟩
  by_cases ht : (j : Int) = (t : Int)
  · rw [if_pos (by simp [ht]), List.append_nil] at hks
    rw [hks] at hkk
    simp (disch := omega) only [r_ln, r_pick, r_pickT, r_pickF, r_condT, r_condF, r_gdTT, r_gdFF, r_gdTF, r_gdFT, r_gqTT, r_gqFF, r_gqTF, r_gqFT, r_not, r_lss, r_leq, r_gtr, r_geq, r_eql, r_neq, r_add, r_sub, r_min2, r_max2, r_min3, r_max3, r_fa, r_iaS, r_iaA, r_ex2a, r_ex2b, r_ex3a, r_ex3b, r_ex3c, r_nc, r_keepE, Nat.zero_add, Nat.add_zero, Nat.mul_one, Int.toNat_natCast, toNat_sub1, toNat_add1, decide_true, decide_false, Bool.not_true, Bool.not_false, if_true, if_false, Bool.false_eq_true, reduceCtorEq, r_gdU, hs, decide_eq_true ht]
    exact hkk _ _ ⟨hP, kr⟩
  · rw [if_neg (by simp only [List.mem_cons, List.not_mem_nil, or_false]; omega)] at hks
    simp (disch := omega) only [r_ln, r_pick, r_pickT, r_pickF, r_condT, r_condF, r_gdTT, r_gdFF, r_gdTF, r_gdFT, r_gqTT, r_gqFF, r_gqTF, r_gqFT, r_not, r_lss, r_leq, r_gtr, r_geq, r_eql, r_neq, r_add, r_sub, r_min2, r_max2, r_min3, r_max3, r_fa, r_iaS, r_iaA, r_ex2a, r_ex2b, r_ex3a, r_ex3b, r_ex3c, r_nc, r_keepE, Nat.zero_add, Nat.add_zero, Nat.mul_one, Int.toNat_natCast, toNat_sub1, toNat_add1, decide_true, decide_false, Bool.not_true, Bool.not_false, if_true, if_false, Bool.false_eq_true, reduceCtorEq, r_gdU, hs, ht]
    refine r33_2 hi hlt hn (hr.kp kr) hwf hws hP hsz (by rw [List.length_map]; omega) fun v' w' o1 c1 => ?_
    exact hkk _ _ ⟨by rw [hks, List.map_append]; exact o1, Kp.of_chg kr c1 fun q hq => (hP.lt hq).1⟩

set_option maxRecDepth 100000 in
set_option maxHeartbeats 2000000 in
theorem laplacian_calls {n s t : Nat} {ws : List Wr} {v : Value} (w : World) (hN : NetOk n ws) (hr : Rd 2 wN w v ws) :
    Calls Tryd.prog 33 #[.int .i64 n, v, .int .i64 s, .int .i64 t] w fun e w' => Kp w w' ∧ ∃ v', e = .returned v' ∧ IMat w.heap.size w' v' (redM n [(s : Int), (t : Int)] (lap ws)) := by
  have h8 := hN.most
  refine lift33 ?_
  unfold S33 S33L0
  refine ⟨fun t9 t10 wr => ∃ i : Nat, i ≤ n ∧ t10 = .int .i64 i ∧ IMat w.heap.size wr t9 ((keepN i [(s : Int), (t : Int)]).map fun i => (keepN n [(s : Int), (t : Int)]).map fun j => lap ws i j) ∧ Kp w wr, fun _ t10 _ => n - (intOf t10).toNat, ⟨0, by omega, rfl, IMat.nil, Kp.refl _⟩, ?_⟩
  rintro _ t9 _ wr ⟨i, hi, rfl, hP, kr⟩
  by_cases hlt : i < n
  case neg =>
    have hlt' : ¬ (i : Int) < (n : Int) := by omega
    obtain rfl : i = n := by omega
    simp only [r_lss, hlt', decide_false, r_condF]
    exact ⟨kr, _, rfl, hP⟩
  have hlt' : (i : Int) < (n : Int) := by omega
  simp only [r_lss, decide_eq_true hlt', r_condT]
  have hks := keepN_succ i [(s : Int), (t : Int)]
  have hkl := keepN_le i [(s : Int), (t : Int)]
  have hsz := kr.size
  refine r_join1 (fun v w3 => IMat w.heap.size w3 v ((keepN (i + 1) [(s : Int), (t : Int)]).map fun i => (keepN n [(s : Int), (t : Int)]).map fun j => lap ws i j) ∧ Kp w w3) ?_ fun kk hkk => ?_
  · rintro v w3 ⟨g1, g2⟩
    rw [r_add _ _ (by omega) (by omega)]
    exact ⟨⟨i + 1, by omega, by go_num, g1, g2⟩, by simp only [intOf]; omega⟩
  by_cases hs : (i : Int) = (s : Int)
  · rw [if_pos (by simp [hs]), List.append_nil] at hks
    rw [hks] at hkk
    simp (disch := omega) only [r_ln, r_pick, r_pickT, r_pickF, r_condT, r_condF, r_gdTT, r_gdFF, r_gdTF, r_gdFT, r_gqTT, r_gqFF, r_gqTF, r_gqFT, r_not, r_lss, r_leq, r_gtr, r_geq, r_eql, r_neq, r_add, r_sub, r_min2, r_max2, r_min3, r_max3, r_fa, r_iaS, r_iaA, r_ex2a, r_ex2b, r_ex3a, r_ex3b, r_ex3c, r_nc, r_keepE, Nat.zero_add, Nat.add_zero, Nat.mul_one, Int.toNat_natCast, toNat_sub1, toNat_add1, decide_true, decide_false, Bool.not_true, Bool.not_false, if_true, if_false, Bool.false_eq_true, reduceCtorEq, r_gdU, decide_eq_true hs]
    exact hkk _ _ ⟨hP, kr⟩
  by_cases ht : (i : Int) = (t : Int)
  · rw [if_pos (by simp [ht]), List.append_nil] at hks
    rw [hks] at hkk
    simp (disch := omega) only [r_ln, r_pick, r_pickT, r_pickF, r_condT, r_condF, r_gdTT, r_gdFF, r_gdTF, r_gdFT, r_gqTT, r_gqFF, r_gqTF, r_gqFT, r_not, r_lss, r_leq, r_gtr, r_geq, r_eql, r_neq, r_add, r_sub, r_min2, r_max2, r_min3, r_max3, r_fa, r_iaS, r_iaA, r_ex2a, r_ex2b, r_ex3a, r_ex3b, r_ex3c, r_nc, r_keepE, Nat.zero_add, Nat.add_zero, Nat.mul_one, Int.toNat_natCast, toNat_sub1, toNat_add1, decide_true, decide_false, Bool.not_true, Bool.not_false, if_true, if_false, Bool.false_eq_true, reduceCtorEq, r_gdU, hs, decide_eq_true ht]
    exact hkk _ _ ⟨hP, kr⟩
  · rw [if_neg (by simp only [List.mem_cons, List.not_mem_nil, or_false]; omega)] at hks
    simp (disch := omega) only [r_ln, r_pick, r_pickT, r_pickF, r_condT, r_condF, r_gdTT, r_gdFF, r_gdTF, r_gdFT, r_gqTT, r_gqFF, r_gqTF, r_gqFT, r_not, r_lss, r_leq, r_gtr, r_geq, r_eql, r_neq, r_add, r_sub, r_min2, r_max2, r_min3, r_max3, r_fa, r_iaS, r_iaA, r_ex2a, r_ex2b, r_ex3a, r_ex3b, r_ex3c, r_nc, r_keepE, Nat.zero_add, Nat.add_zero, Nat.mul_one, Int.toNat_natCast, toNat_sub1, toNat_add1, decide_true, decide_false, Bool.not_true, Bool.not_false, if_true, if_false, Bool.false_eq_true, reduceCtorEq, r_gdU, hs, ht]
    refine r33_1 hlt h8 (hr.kp kr) hN.wf hN.few hP hsz (by rw [List.length_map]; omega) fun v' w' o1 c1 => ?_
    exact hkk _ _ ⟨by rw [hks, List.map_append]; exact o1, Kp.of_chg kr c1 fun q hq => hq⟩

end Go.Proofs.YtkdcldbedbagjaaDoor

/- Contract: level of SquarePower. -/
namespace Go.Proofs.YtkdcldbedbagjaaDoor
open Go.Lf Go.RowKit Go.Dt

theorem st4 {w : World} {a : Addr} {x : Bool} {v : Value} {K : World → Prop} (hc : w.cell? a = some v) (hf : w.frozen? a = false) : stW Tryd.prog 4 (.pointer (some a)) (.bool x) w K = K (w.setCell a (.bool x)) := by
  have e : stW Tryd.prog 4 (.pointer (some a)) (.bool x) w K = ((w.cell? (a.add 0)).isSome = true ∧ w.frozen? (a.add 0) = false ∧ true = true ∧ K (w.setCell (a.add 0) (.bool x))) := by kernel_rfl
  rw [e]
  have : a.add 0 = a := by cases a; simp [Addr.add]
  rw [this, hc, hf]
  simp

theorem IntsAt.ar {base : Nat} {w : World} {v : Value} {l : List Int} (h : IntsAt base w v l) (h0 : 0 < l.length) : ∃ g, v.ownBlock = some g ∧ ∀ q, q < l.length → (∀ K : Value → Prop, iaS 1 v (.int .i64 q) K = K (.pointer (some ⟨g, q, none⟩))) ∧
    w.cell? ⟨g, q, none⟩ = some (.int .i64 (l.getD q 0)) ∧ w.frozen? ⟨g, q, none⟩ = false ∧ ∀ x, IntsAt base (w.setCell ⟨g, q, none⟩ (.int .i64 x)) v (l.set q x) := by
  obtain ⟨g, cap, e, _⟩ := h.put h0 0
  refine ⟨g, by rw [e]; rfl, fun q hq => ?_⟩
  obtain ⟨g', cap', e', _, hc, hf, _⟩ := h.put hq 0
  have : g' = g := by rw [e] at e'; injection e' with e1; injection e1 with e1; injection e1 with e1; exact e1.symm
  subst this
  have hqq : (q : Int).toNat = q := by omega
  refine ⟨fun K => by rw [e', r_iaS _ _ _ _ _ _ _ (by omega) (by omega), hqq, Nat.mul_one, Nat.zero_add], hc, hf, fun x => ?_⟩
  obtain ⟨g2, _, e2, _, _, _, hs⟩ := h.put hq x
  have : g2 = g' := by rw [e] at e2; injection e2 with e1; injection e1 with e1; injection e1 with e1; exact e1.symm
  subst this
  exact hs
theorem BoolsAt.ar {base : Nat} {w : World} {v : Value} {l : List Bool} (h : BoolsAt base w v l) (h0 : 0 < l.length) : ∃ g, v.ownBlock = some g ∧ ∀ q, q < l.length → (∀ K : Value → Prop, iaS 1 v (.int .i64 q) K = K (.pointer (some ⟨g, q, none⟩))) ∧
    w.cell? ⟨g, q, none⟩ = some (.bool (l.getD q false)) ∧ w.frozen? ⟨g, q, none⟩ = false ∧ ∀ x, BoolsAt base (w.setCell ⟨g, q, none⟩ (.bool x)) v (l.set q x) := by
  obtain ⟨g, cap, e, _⟩ := h.put h0 false
  refine ⟨g, by rw [e]; rfl, fun q hq => ?_⟩
  obtain ⟨g', cap', e', _, hc, hf, _⟩ := h.put hq false
  have : g' = g := by rw [e] at e'; injection e' with e1; injection e1 with e1; injection e1 with e1; exact e1.symm
  subst this
  have hqq : (q : Int).toNat = q := by omega
  refine ⟨fun K => by rw [e', r_iaS _ _ _ _ _ _ _ (by omega) (by omega), hqq, Nat.mul_one, Nat.zero_add], hc, hf, fun x => ?_⟩
  obtain ⟨g2, _, e2, _, _, _, hs⟩ := h.put hq x
  have : g2 = g' := by rw [e] at e2; injection e2 with e1; injection e1 with e1; injection e1 with e1; exact e1.symm
  subst this
  exact hs

/-- The state of level's arrays. -/
structure LvSt (n : Nat) (p : Nat → Int) (w : World) (b7 : Nat) (cv : Value) (T V : Int) (t11 t12 : Value) (wr : World) (vals : List Int) (kn : List Bool) : Prop where
  kp : Kp w wr
  ints : IntsAt w.heap.size wr t11 vals
  bools : BoolsAt w.heap.size wr t12 kn
  l1 : vals.length = n
  l2 : kn.length = n
  box : wr.heap[b7]? = some (.cells #[cv, .int .i64 T, .int .i64 V] 36 (0, 0))
  ok : ∀ x, kn.getD x false = true → vals.getD x 0 = p x

section
variable {n : Nat} {p : Nat → Int} {w wr : World} {b7 : Nat} {cv : Value} {T V : Int} {t11 t12 : Value} {vals : List Int} {kn : List Bool}
theorem LvSt.later (h : LvSt n p w b7 cv T V t11 t12 wr vals kn) {w' : World} (k : Kp wr w') : LvSt n p w b7 cv T V t11 t12 w' vals kn :=
  ⟨Kp.trans h.kp k, h.ints.kp k, h.bools.kp k, h.l1, h.l2, block_below h.box k, h.ok⟩

/-- A vertex is set. -/
theorem LvSt.set (h : LvSt n p w b7 cv T V t11 t12 wr vals kn) {q g1 g2 : Nat} (hq : q < n) (e1 : t11.ownBlock = some g1) (e2 : t12.ownBlock = some g2) (hg1 : w.heap.size ≤ g1) (hg2 : w.heap.size ≤ g2) {x : Int} (hx : x = p q)
    (hI : IntsAt w.heap.size (wr.setCell ⟨g1, q, none⟩ (.int .i64 x)) t11 (vals.set q x)) (hB : BoolsAt w.heap.size ((wr.setCell ⟨g1, q, none⟩ (.int .i64 x)).setCell ⟨g2, q, none⟩ (.bool true)) t12 (kn.set q true)) :
    LvSt n p w b7 cv T V t11 t12 ((wr.setCell ⟨g1, q, none⟩ (.int .i64 x)).setCell ⟨g2, q, none⟩ (.bool true)) (vals.set q x) (kn.set q true) := by
  have c1 : Chg (fun k => k = g1) wr (wr.setCell ⟨g1, q, none⟩ (.int .i64 x)) := Chg.setCell _ _ rfl
  have c2 : Chg (fun k => k = g2) (wr.setCell ⟨g1, q, none⟩ (.int .i64 x)) ((wr.setCell ⟨g1, q, none⟩ (.int .i64 x)).setCell ⟨g2, q, none⟩ (.bool true)) := Chg.setCell _ _ rfl
  obtain ⟨cu1, hc1⟩ := h.ints.row e1
  obtain ⟨cu2, hc2⟩ := h.bools.row e2
  have n12 : g1 ≠ g2 := type_ne hc1 hc2 (by decide)
  have n7 : b7 ≠ g1 := type_ne h.box hc1 (by decide)
  have n7' : b7 ≠ g2 := type_ne h.box hc2 (by decide)
  refine ⟨Kp.of_chg (Kp.of_chg h.kp c1 fun k e => by omega) c2 fun k e => by omega, hI.chg c2 fun k hk e => ?_, hB, by rw [List.length_set]; exact h.l1, by rw [List.length_set]; exact h.l2, c2.at (c1.at h.box n7) n7', fun y hy => ?_⟩
  · rw [e1] at hk; cases hk; exact n12 e
  · by_cases e : y = q
    · subst e
      rw [List.getD_eq_getElem?_getD, List.getElem?_set_self (by rw [h.l1]; exact hq)]
      exact hx
    · rw [List.getD_eq_getElem?_getD, List.getElem?_set_ne (Ne.symm e), ← List.getD_eq_getElem?_getD] at hy ⊢
      exact h.ok y hy
end

theorem kn_set {kn : List Bool} {q x : Nat} (h : kn.getD x false = true) : (kn.set q true).getD x false = true := by
  by_cases e : q = x
  · subst e
    have hlt : q < kn.length := by
      refine Classical.byContradiction fun hn => ?_
      rw [List.getD_eq_getElem?_getD, List.getElem?_eq_none (by omega)] at h
      cases h
    rw [List.getD_eq_getElem?_getD, List.getElem?_set_self hlt]; rfl
  · rw [List.getD_eq_getElem?_getD, List.getElem?_set_ne e, ← List.getD_eq_getElem?_getD]; exact h
theorem kn_set_self {kn : List Bool} {q : Nat} (h : q < kn.length) : (kn.set q true).getD q false = true := by
  rw [List.getD_eq_getElem?_getD, List.getElem?_set_self h]; rfl

/-- The halves of level's step. -/
def H1 (t7 t11 t12 t14 t40 t45 : Value) (w : World) (KK : World → Prop) : Prop :=
  iaS 1 t12 t40 fun t48 =>
  ld1 w t48 fun t49 =>
  gd t49 true (fun k => k t12 w) w fun t51 w =>
  gd t49 true (fun k => k t45 w) w fun t52 w =>
  gd t49 true (fun k => iaS 1 t51 t52 fun v => k v w) w fun t53 w =>
  gd t49 true (fun k => ld1 w t53 fun v => k v w) w fun t54 w =>
  gd t49 true (fun k => unQ .not t54 fun v => k v w) w fun t55 w =>
  pickQ t49 t55 (.bool false) fun t56 =>
  Join (fun (k_4 : World → Prop) =>
    condW t56 (
      Drew w fun w =>
      iaS 1 t11 t40 fun t61 =>
      ld1 w t61 fun t62 =>
      fa1 t7 0 fun t63 =>
      ld1 w t63 fun t64 =>
      iaS 1 t64 t14 fun t66 =>
      ld1 w t66 fun t67 =>
      binQ Tryd.prog w .sub 3 false t62 t67 fun t68 =>
      iaS 1 t11 t45 fun t69 =>
      stW Tryd.prog 3 t69 t68 w fun w =>
      iaS 1 t12 t45 fun t72 =>
      stW Tryd.prog 4 t72 (.bool true) w fun w =>
      k_4 w
    ) (
      k_4 w
    )
  ) KK

def H2 (t7 t11 t12 t14 t40 t45 : Value) (w : World) (KK : World → Prop) : Prop :=
  iaS 1 t12 t45 fun t75_2 =>
  ld1 w t75_2 fun t76_2 =>
  gd t76_2 true (fun k => k t12 w) w fun t78_2 w =>
  gd t76_2 true (fun k => k t40 w) w fun t79_2 w =>
  gd t76_2 true (fun k => iaS 1 t78_2 t79_2 fun v => k v w) w fun t80_2 w =>
  gd t76_2 true (fun k => ld1 w t80_2 fun v => k v w) w fun t81_2 w =>
  gd t76_2 true (fun k => unQ .not t81_2 fun v => k v w) w fun t82_2 w =>
  pickQ t76_2 t82_2 (.bool false) fun t83_2 =>
  Join (fun (k_5 : World → Prop) =>
    condW t83_2 (
      Drew w fun w =>
      iaS 1 t11 t45 fun t88_2 =>
      ld1 w t88_2 fun t89_2 =>
      fa1 t7 0 fun t90_2 =>
      ld1 w t90_2 fun t91_2 =>
      iaS 1 t91_2 t14 fun t93_2 =>
      ld1 w t93_2 fun t94_2 =>
      binQ Tryd.prog w .add 3 false t89_2 t94_2 fun t95_2 =>
      iaS 1 t11 t40 fun t96_2 =>
      stW Tryd.prog 3 t96_2 t95_2 w fun w =>
      iaS 1 t12 t40 fun t99_2 =>
      stW Tryd.prog 4 t99_2 (.bool true) w fun w =>
      k_5 w
    ) (
      k_5 w
    )
  ) KK

section
variable {n : Nat} {p : Nat → Int} {cl : List Int} {cv t11 t12 : Value} {T V : Int} {b7 k A B : Nat} {w wr : World} {vals : List Int} {kn : List Bool} {KK : World → Prop}

set_option maxRecDepth 100000 in
set_option maxHeartbeats 1000000 in
theorem half1 (hA : A < n) (hB : B < n) (hp : ∀ x, 0 ≤ p x ∧ p x ≤ 65536) (hcv : RdInts w cv cl) (hkl : k < cl.length) (hck : cl.getD k 0 = p A - p B) (h : LvSt n p w b7 cv T V t11 t12 wr vals kn)
    (hk : ∀ w' vals' kn', LvSt n p w b7 cv T V t11 t12 w' vals' kn' → (∀ x, kn.getD x false = true → kn'.getD x false = true) → (kn.getD A false = true → kn'.getD B false = true) → KK w') :
    H1 (ptrV b7) t11 t12 (.int .i64 k) (.int .i64 A) (.int .i64 B) wr KK := by
  obtain ⟨g1, e1, ar1⟩ := h.ints.ar (by rw [h.l1]; omega)
  obtain ⟨g2, e2, ar2⟩ := h.bools.ar (by rw [h.l2]; omega)
  have lg1 := (h.ints.lt e1).1
  have lg2 := (h.bools.lt e2).1
  obtain ⟨i1A, c1A, _, _⟩ := ar1 A (by rw [h.l1]; exact hA)
  obtain ⟨i1B, c1B, f1B, s1B⟩ := ar1 B (by rw [h.l1]; exact hB)
  obtain ⟨i2A, c2A, _, _⟩ := ar2 A (by rw [h.l2]; exact hA)
  obtain ⟨i2B, c2B, f2B, _⟩ := ar2 B (by rw [h.l2]; exact hB)
  obtain ⟨cu1, hc1⟩ := h.ints.row e1
  obtain ⟨cu2, hc2⟩ := h.bools.row e2
  have n12 : g1 ≠ g2 := type_ne hc1 hc2 (by decide)
  have pA := hp A
  have pB := hp B
  unfold H1
  cases hkA : kn.getD A false with
  | false =>
    rw [hkA] at c2A
    simp only [r_ln, r_pick, r_pickT, r_pickF, r_condT, r_condF, r_gdTT, r_gdFF, r_gdTF, r_gdFT, r_gqTT, r_gqFF, r_gqTF, r_gqFT, r_not, r_lss, r_leq, r_gtr, r_geq, r_eql, r_neq, r_add, r_sub, r_min2, r_max2, r_min3, r_max3, r_fa, r_iaS, r_iaA, r_ex2a, r_ex2b, r_ex3a, r_ex3b, r_ex3c, r_nc, r_keepE, Nat.zero_add, Nat.add_zero, Nat.mul_one, Int.toNat_natCast, toNat_sub1, toNat_add1, decide_true, decide_false, Bool.not_true, Bool.not_false, if_true, if_false, Bool.false_eq_true, reduceCtorEq, r_gdU, i2A, r_ld c2A, Join]
    exact hk wr vals kn h (fun _ h => h) fun h => by rw [hkA] at h; cases h
  | true =>
    rw [hkA] at c2A
    cases hkB : kn.getD B false with
    | true =>
      rw [hkB] at c2B
      simp only [r_ln, r_pick, r_pickT, r_pickF, r_condT, r_condF, r_gdTT, r_gdFF, r_gdTF, r_gdFT, r_gqTT, r_gqFF, r_gqTF, r_gqFT, r_not, r_lss, r_leq, r_gtr, r_geq, r_eql, r_neq, r_add, r_sub, r_min2, r_max2, r_min3, r_max3, r_fa, r_iaS, r_iaA, r_ex2a, r_ex2b, r_ex3a, r_ex3b, r_ex3c, r_nc, r_keepE, Nat.zero_add, Nat.add_zero, Nat.mul_one, Int.toNat_natCast, toNat_sub1, toNat_add1, decide_true, decide_false, Bool.not_true, Bool.not_false, if_true, if_false, Bool.false_eq_true, reduceCtorEq, r_gdU, i2A, i2B, r_ld c2A, r_ld c2B, Join, Bool.not_true]
      exact hk wr vals kn h (fun _ h => h) fun _ => hkB
    | false =>
      rw [hkB] at c2B
      simp only [r_ln, r_pick, r_pickT, r_pickF, r_condT, r_condF, r_gdTT, r_gdFF, r_gdTF, r_gdFT, r_gqTT, r_gqFF, r_gqTF, r_gqFT, r_not, r_lss, r_leq, r_gtr, r_geq, r_eql, r_neq, r_add, r_sub, r_min2, r_max2, r_min3, r_max3, r_fa, r_iaS, r_iaA, r_ex2a, r_ex2b, r_ex3a, r_ex3b, r_ex3c, r_nc, r_keepE, Nat.zero_add, Nat.add_zero, Nat.mul_one, Int.toNat_natCast, toNat_sub1, toNat_add1, decide_true, decide_false, Bool.not_true, Bool.not_false, if_true, if_false, Bool.false_eq_true, reduceCtorEq, r_gdU, i2A, i2B, r_ld c2A, r_ld c2B, Join, Bool.not_false]
      refine r_drew fun w3 k3 hh => ?_
      have h3 := h.later k3
      obtain ⟨g1', e1', ar1'⟩ := h3.ints.ar (by rw [h.l1]; omega)
      obtain ⟨g2', e2', ar2'⟩ := h3.bools.ar (by rw [h.l2]; omega)
      rw [e1] at e1'
      rw [e2] at e2'
      cases e1'
      cases e2'
      obtain ⟨_, d1A, _, _⟩ := ar1' A (by rw [h.l1]; exact hA)
      obtain ⟨_, d1B, f1B, s1B⟩ := ar1' B (by rw [h.l1]; exact hB)
      have bx : w3.cell? ⟨b7, 0, none⟩ = some cv := by rw [cell_row h3.box]; rfl
      have cur : ∀ K : Value → Prop, (iaS 1 cv (.int .i64 k) fun q => ld1 w3 q K) = K (.int .i64 (p A - p B)) := fun K => by
        rw [ints_ldK (hcv.below h3.kp) hkl, hck]
      rw [i1A, r_ld d1A, r_ld bx, cur, h.ok A hkA, r_sub _ _ (by omega) (by omega), i1B, st3 d1B f1B]
      have hI := s1B (p A - (p A - p B))
      have c1 : Chg (fun k => k = g1) w3 (w3.setCell ⟨g1, B, none⟩ (.int .i64 (p A - (p A - p B)))) := Chg.setCell _ _ rfl
      have hB1 := h3.bools.chg c1 fun q hq e => by rw [e2] at hq; cases hq; exact n12 e.symm
      obtain ⟨g2'', e2'', ar2''⟩ := BoolsAt.ar hB1 (by rw [h.l2]; omega)
      rw [e2] at e2''
      cases e2''
      obtain ⟨_, d2B, f2B, s2B⟩ := ar2'' B (by rw [h.l2]; exact hB)
      rw [st4 d2B f2B]
      exact hk _ _ _ (h3.set hB e1 e2 lg1 lg2 (by omega) hI (s2B true)) (fun x => kn_set) fun _ => kn_set_self (by rw [h.l2]; exact hB)

set_option maxRecDepth 100000 in
set_option maxHeartbeats 1000000 in
theorem half2 (hA : A < n) (hB : B < n) (hp : ∀ x, 0 ≤ p x ∧ p x ≤ 65536) (hcv : RdInts w cv cl) (hkl : k < cl.length) (hck : cl.getD k 0 = p A - p B) (h : LvSt n p w b7 cv T V t11 t12 wr vals kn)
    (hk : ∀ w' vals' kn', LvSt n p w b7 cv T V t11 t12 w' vals' kn' → (∀ x, kn.getD x false = true → kn'.getD x false = true) → (kn.getD B false = true → kn'.getD A false = true) → KK w') :
    H2 (ptrV b7) t11 t12 (.int .i64 k) (.int .i64 A) (.int .i64 B) wr KK := by
  obtain ⟨g1, e1, ar1⟩ := h.ints.ar (by rw [h.l1]; omega)
  obtain ⟨g2, e2, ar2⟩ := h.bools.ar (by rw [h.l2]; omega)
  have lg1 := (h.ints.lt e1).1
  have lg2 := (h.bools.lt e2).1
  obtain ⟨i1A, c1A, _, _⟩ := ar1 A (by rw [h.l1]; exact hA)
  obtain ⟨i1B, c1B, f1B, s1B⟩ := ar1 B (by rw [h.l1]; exact hB)
  obtain ⟨i2A, c2A, _, _⟩ := ar2 A (by rw [h.l2]; exact hA)
  obtain ⟨i2B, c2B, f2B, _⟩ := ar2 B (by rw [h.l2]; exact hB)
  obtain ⟨cu1, hc1⟩ := h.ints.row e1
  obtain ⟨cu2, hc2⟩ := h.bools.row e2
  have n12 : g1 ≠ g2 := type_ne hc1 hc2 (by decide)
  have pA := hp A
  have pB := hp B
  unfold H2
  cases hkB : kn.getD B false with
  | false =>
    rw [hkB] at c2B
    simp only [r_ln, r_pick, r_pickT, r_pickF, r_condT, r_condF, r_gdTT, r_gdFF, r_gdTF, r_gdFT, r_gqTT, r_gqFF, r_gqTF, r_gqFT, r_not, r_lss, r_leq, r_gtr, r_geq, r_eql, r_neq, r_add, r_sub, r_min2, r_max2, r_min3, r_max3, r_fa, r_iaS, r_iaA, r_ex2a, r_ex2b, r_ex3a, r_ex3b, r_ex3c, r_nc, r_keepE, Nat.zero_add, Nat.add_zero, Nat.mul_one, Int.toNat_natCast, toNat_sub1, toNat_add1, decide_true, decide_false, Bool.not_true, Bool.not_false, if_true, if_false, Bool.false_eq_true, reduceCtorEq, r_gdU, i2B, r_ld c2B, Join]
    exact hk wr vals kn h (fun _ h => h) fun h => by rw [hkB] at h; cases h
  | true =>
    rw [hkB] at c2B
    cases hkA : kn.getD A false with
    | true =>
      rw [hkA] at c2A
      simp only [r_ln, r_pick, r_pickT, r_pickF, r_condT, r_condF, r_gdTT, r_gdFF, r_gdTF, r_gdFT, r_gqTT, r_gqFF, r_gqTF, r_gqFT, r_not, r_lss, r_leq, r_gtr, r_geq, r_eql, r_neq, r_add, r_sub, r_min2, r_max2, r_min3, r_max3, r_fa, r_iaS, r_iaA, r_ex2a, r_ex2b, r_ex3a, r_ex3b, r_ex3c, r_nc, r_keepE, Nat.zero_add, Nat.add_zero, Nat.mul_one, Int.toNat_natCast, toNat_sub1, toNat_add1, decide_true, decide_false, Bool.not_true, Bool.not_false, if_true, if_false, Bool.false_eq_true, reduceCtorEq, r_gdU, i2A, i2B, r_ld c2A, r_ld c2B, Join, Bool.not_true]
      exact hk wr vals kn h (fun _ h => h) fun _ => hkA
    | false =>
      rw [hkA] at c2A
      simp only [r_ln, r_pick, r_pickT, r_pickF, r_condT, r_condF, r_gdTT, r_gdFF, r_gdTF, r_gdFT, r_gqTT, r_gqFF, r_gqTF, r_gqFT, r_not, r_lss, r_leq, r_gtr, r_geq, r_eql, r_neq, r_add, r_sub, r_min2, r_max2, r_min3, r_max3, r_fa, r_iaS, r_iaA, r_ex2a, r_ex2b, r_ex3a, r_ex3b, r_ex3c, r_nc, r_keepE, Nat.zero_add, Nat.add_zero, Nat.mul_one, Int.toNat_natCast, toNat_sub1, toNat_add1, decide_true, decide_false, Bool.not_true, Bool.not_false, if_true, if_false, Bool.false_eq_true, reduceCtorEq, r_gdU, i2A, i2B, r_ld c2A, r_ld c2B, Join, Bool.not_false]
      refine r_drew fun w3 k3 hh => ?_
      have h3 := h.later k3
      obtain ⟨g1', e1', ar1'⟩ := h3.ints.ar (by rw [h.l1]; omega)
      obtain ⟨g2', e2', ar2'⟩ := h3.bools.ar (by rw [h.l2]; omega)
      rw [e1] at e1'
      rw [e2] at e2'
      cases e1'
      cases e2'
      obtain ⟨_, d1A, f1A, s1A⟩ := ar1' A (by rw [h.l1]; exact hA)
      obtain ⟨_, d1B, _, _⟩ := ar1' B (by rw [h.l1]; exact hB)
      have bx : w3.cell? ⟨b7, 0, none⟩ = some cv := by rw [cell_row h3.box]; rfl
      have cur : ∀ K : Value → Prop, (iaS 1 cv (.int .i64 k) fun q => ld1 w3 q K) = K (.int .i64 (p A - p B)) := fun K => by
        rw [ints_ldK (hcv.below h3.kp) hkl, hck]
      rw [i1B, r_ld d1B, r_ld bx, cur, h.ok B hkB, r_add _ _ (by omega) (by omega), i1A, st3 d1A f1A]
      have hI := s1A (p B + (p A - p B))
      have c1 : Chg (fun k => k = g1) w3 (w3.setCell ⟨g1, A, none⟩ (.int .i64 (p B + (p A - p B)))) := Chg.setCell _ _ rfl
      have hB1 := h3.bools.chg c1 fun q hq e => by rw [e2] at hq; cases hq; exact n12 e.symm
      obtain ⟨g2'', e2'', ar2''⟩ := BoolsAt.ar hB1 (by rw [h.l2]; omega)
      rw [e2] at e2''
      cases e2''
      obtain ⟨_, d2A, f2A, s2A⟩ := ar2'' A (by rw [h.l2]; exact hA)
      rw [st4 d2A f2A]
      exact hk _ _ _ (h3.set hA e1 e2 lg1 lg2 (by omega) hI (s2A true)) (fun x => kn_set) fun _ => kn_set_self (by rw [h.l2]; exact hA)
end

set_option maxRecDepth 100000 in
set_option maxHeartbeats 2000000 in
theorem r23_1 {n : Nat} {p : Nat → Int} {ws : List Wr} {cl : List Int} {v cv t11 t12 : Value} {T V : Int} {b7 turn : Nat} {w wr : World} {vals : List Int} {kn : List Bool} {next : Value → World → Prop}
    (hwf : Wf n ws) (hws : ws.length ≤ 16) (ht : turn ≤ 100) (hcl : cl.length = ws.length) (hc : ∀ k, k < ws.length → cl.getD k 0 = p (ws.getD k (0, 0)).1 - p (ws.getD k (0, 0)).2) (hp : ∀ x, 0 ≤ p x ∧ p x ≤ 65536)
    (hr : Rd 2 wN w v ws) (hcv : RdInts w cv cl) (h : LvSt n p w b7 cv T V t11 t12 wr vals kn)
    (hk : ∀ w' vals' kn', LvSt n p w b7 cv T V t11 t12 w' vals' kn' → (∀ x, kn.getD x false = true → kn'.getD x false = true) → (∀ e ∈ ws, (kn.getD e.1 false = true → kn'.getD e.2 false = true) ∧ (kn.getD e.2 false = true → kn'.getD e.1 false = true)) → next (.int .i64 (turn + 1 : Nat)) w') :
    S23L1 v (ptrV b7) t11 t12 (.int .i64 turn) next wr := by
  obtain ⟨va, vc, ev, _⟩ := hr.len
  have lnv : ∀ K : Value → Prop, ln1 v K = K (.int .i64 ws.length) := fun K => by rw [ev]; rfl
  unfold S23L1
  refine ⟨fun t14 wq => ∃ (k : Nat) (vals' : List Int) (kn' : List Bool), k ≤ ws.length ∧ t14 = .int .i64 k ∧ LvSt n p w b7 cv T V t11 t12 wq vals' kn' ∧ (∀ x, kn.getD x false = true → kn'.getD x false = true) ∧
      ∀ j, j < k → (kn.getD (ws.getD j (0, 0)).1 false = true → kn'.getD (ws.getD j (0, 0)).2 false = true) ∧ (kn.getD (ws.getD j (0, 0)).2 false = true → kn'.getD (ws.getD j (0, 0)).1 false = true),
    fun t14 _ => ws.length - (intOf t14).toNat, ⟨0, vals, kn, by omega, rfl, h, fun _ h => h, fun j hj => by omega⟩, ?_⟩
  rintro _ _ wq ⟨k, vals', kn', hk1, rfl, hS, hmono, hdone⟩
  rw [lnv]
  by_cases hlt : k < ws.length
  case neg =>
    have hlt' : ¬ (k : Int) < (ws.length : Int) := by omega
    obtain rfl : k = ws.length := by omega
    simp only [r_lss, decide_eq_false hlt', r_condF]
    rw [r_add _ _ (by omega) (by omega)]
    exact hk wq vals' kn' hS hmono fun e he => by
      obtain ⟨j, hj, rfl⟩ := List.mem_iff_getElem.1 he
      have := hdone j hj
      rwa [getD_lt _ _ _ hj] at this
  have hlt' : (k : Int) < (ws.length : Int) := by omega
  simp only [r_lss, decide_eq_true hlt', r_condT]
  refine r_drew fun w2 k2 _ => ?_
  have hS2 := hS.later k2
  have hw := hwf (ws.getD k (0, 0)) (by rw [getD_lt _ _ _ hlt]; exact List.getElem_mem hlt)
  have hck := hc k hlt
  obtain ⟨b, o, ia, cA, cB⟩ := wire_two (hr.kp hS2.kp) hlt
  have hdone2 : ∀ kn3 : List Bool, (∀ x, kn'.getD x false = true → kn3.getD x false = true) → (kn'.getD (ws.getD k (0, 0)).1 false = true → kn3.getD (ws.getD k (0, 0)).2 false = true) → (kn'.getD (ws.getD k (0, 0)).2 false = true → kn3.getD (ws.getD k (0, 0)).1 false = true) →
      ∀ j, j < k + 1 → (kn.getD (ws.getD j (0, 0)).1 false = true → kn3.getD (ws.getD j (0, 0)).2 false = true) ∧ (kn.getD (ws.getD j (0, 0)).2 false = true → kn3.getD (ws.getD j (0, 0)).1 false = true) := fun kn3 m1 m2 m3 j hj => by
    by_cases e : j = k
    · subst e
      exact ⟨fun h => m2 (hmono _ h), fun h => m3 (hmono _ h)⟩
    · have := hdone j (by omega)
      exact ⟨fun h => m1 _ (this.1 h), fun h => m1 _ (this.2 h)⟩
  generalize ws.getD k (0, 0) = e at *
  obtain ⟨A, B⟩ := e
  simp only at cA cB hw hck hdone2
  obtain ⟨hA, hB, hAB⟩ := hw
  rw [ia, r_fa, r_ld cA, ia, r_fa, r_ld cB]
  refine half1 hA hB hp hcv (by omega) hck hS2 fun w3 vals3 kn3 hS3 m1 m2 => ?_
  refine half2 hA hB hp hcv (by omega) hck hS3 fun w4 vals4 kn4 hS4 m3 m4 => ?_
  rw [r_add _ _ (by omega) (by omega)]
  exact ⟨⟨k + 1, vals4, kn4, by omega, by go_num, hS4, fun x hx => m3 _ (m1 _ (hmono x hx)), hdone2 kn4 (fun x hx => m3 _ (m1 x hx)) (fun hx => m3 _ (m2 hx)) fun hx => m4 (m1 _ hx)⟩, by simp only [intOf]; omega⟩

end Go.Proofs.YtkdcldbedbagjaaDoor
