/- Contracts: between, Trees, Merged of the program. -/
import Derived.Test.YtkdcldbedbagjaaDoorKh
set_option linter.all false
namespace Go.Proofs.YtkdcldbedbagjaaDoor
open Go.Lf Go.RowKit Go.Dt

/-- What 'between' leaves: the network, or something that is not used. -/
theorem endErr_ne {n : Int} {L : List (Int × Int)} {s t : Int} (h : ¬ netErr n L = 0) : endErr n L s t = netErr n L := if_neg h
theorem endErr_eq {n : Int} {L : List (Int × Int)} {s t : Int} (h : netErr n L = 0) : endErr n L s t = if s < 0 ∨ n ≤ s ∨ t < 0 ∨ n ≤ t ∨ s = t then 2 else 0 := if_pos h

set_option maxRecDepth 100000 in
set_option maxHeartbeats 2000000 in
theorem between_calls {v : Value} {L : List (Int × Int)} {n s t : Int} (w : World) (hr : RdW w v L) :
    Calls Tryd.prog 54 #[.int .i64 n, v, .int .i64 s, .int .i64 t] w fun e w' => Kp w w' ∧ e = .returned (.tuple #[if netErr n L = 0 then netV n v else netV 0 nilS, .int .i64 (endErr n L s t)]) := by
  obtain ⟨a, cap, ev, _⟩ := hr.len
  subst ev
  refine lift54 ?_
  unfold S54
  refine r_box fun b8 w1 e1 s1 h1 k1 => ?_
  refine r_use fok58 (of_calls (n := n) w1 (hr.kp k1)) rfl ?_
  rintro _ w2 ⟨k2, rfl⟩
  refine ⟨_, rfl, ?_⟩
  have k02 := Kp.trans k1 k2
  rw [r_ex2a, r_ex2b]
  refine r_box fun b10 w3 e3 s3 h3 k3 => ?_
  have k03 := Kp.trans k02 k3
  have h1' : w1.heap[b8]? = some (.cells #[.int .i64 0, .slice none 0 0] 80 (0, 0)) := h1
  have h13 := block_below h1' (Kp.trans k2 k3)
  have h3' : w3.heap[b10]? = some (.cells #[.int .i64 0, .slice none 0 0] 80 (0, 0)) := h3
  have hsz := k2.size
  -- the network is laid into the second box, and from there into the first
  obtain ⟨k, a', m', c', hx⟩ : ∃ k a' m' c', (if netErr n L = 0 then netV n (.slice a L.length cap) else netV 0 nilS) = netV k (.slice a' m' c') := by
    split
    · exact ⟨_, _, _, _, rfl⟩
    · exact ⟨_, _, _, _, rfl⟩
  rw [hx]
  refine st80 h3' fun w4 c4 s4 h4 => ?_
  have k04 : Kp w w4 := Kp.of_chg k03 c4 fun q e => by omega
  have h14 := c4.at h13 (by omega)
  have fin2 : ∀ (E : Int), E = endErr n L s t → ldN 2 w4 (ptrV b10) fun t43_2 => stW Tryd.prog 80 (ptrV b8) t43_2 w4 fun w_1 => ldN 2 w_1 (ptrV b8) fun r_2 => Kp w w_1 ∧ Ending.returned (Value.tuple #[r_2, .int .i64 E]) = Ending.returned (.tuple #[netV k (.slice a' m' c'), .int .i64 (endErr n L s t)]) := fun E hE => by
    rw [net_box h4]
    refine st80 h14 fun w5 c5 s5 h5 => ?_
    rw [net_box h5, hE]
    exact ⟨Kp.of_chg k04 c5 fun q e => by omega, rfl⟩
  by_cases h0 : netErr n L = 0
  case neg =>
    rw [endErr_ne h0] at fin2 ⊢
    simp (disch := omega) only [r_ln, r_pick, r_pickT, r_pickF, r_condT, r_condF, r_gdTT, r_gdFF, r_gdTF, r_gdFT, r_gqTT, r_gqFF, r_gqTF, r_gqFT, r_not, r_lss, r_leq, r_gtr, r_geq, r_eql, r_neq, r_add, r_sub, r_min2, r_max2, r_min3, r_max3, r_fa, r_iaS, r_iaA, r_ex2a, r_ex2b, r_ex3a, r_ex3b, r_ex3c, r_nc, r_keepE, Nat.zero_add, Nat.add_zero, Nat.mul_one, Int.toNat_natCast, toNat_sub1, toNat_add1, decide_true, decide_false, Bool.not_true, Bool.not_false, if_true, if_false, Bool.false_eq_true, reduceCtorEq, h0, r_gdU]
    refine r_join1 (fun v w' => v = .int .i64 (netErr n L) ∧ w4 = w') ?_ fun kk hkk => hkk _ _ ⟨rfl, rfl⟩
    rintro _ _ ⟨rfl, rfl⟩
    exact fin2 _ rfl
  rw [endErr_eq h0] at fin2 ⊢
  generalize hE : (if s < 0 ∨ n ≤ s ∨ t < 0 ∨ n ≤ t ∨ s = t then (2 : Int) else 0) = E at fin2 ⊢
  have jT : E = 2 → Join (fun (k_2 : Value → World → Prop) => k_2 (.int .i64 2) w4) (fun t11 w_1 => ldN 2 w_1 (ptrV b10) fun t43_2 => stW Tryd.prog 80 (ptrV b8) t43_2 w_1 fun w_2 => ldN 2 w_2 (ptrV b8) fun r_2 => Kp w w_2 ∧ Ending.returned (Value.tuple #[r_2, t11]) = Ending.returned (.tuple #[netV k (.slice a' m' c'), .int .i64 E])) := fun hE2 => by
    refine r_join1 (fun v w' => v = .int .i64 E ∧ w4 = w') ?_ fun kk hkk => ?_
    · rintro _ _ ⟨rfl, rfl⟩
      exact fin2 _ rfl
    · exact hkk _ _ ⟨by rw [hE2], rfl⟩
  have jF : E = 0 → Join (fun (k_2 : Value → World → Prop) => k_2 (.int .i64 (netErr n L)) w4) (fun t11 w_1 => ldN 2 w_1 (ptrV b10) fun t43_2 => stW Tryd.prog 80 (ptrV b8) t43_2 w_1 fun w_2 => ldN 2 w_2 (ptrV b8) fun r_2 => Kp w w_2 ∧ Ending.returned (Value.tuple #[r_2, t11]) = Ending.returned (.tuple #[netV k (.slice a' m' c'), .int .i64 E])) := fun hE2 => by
    refine r_join1 (fun v w' => v = .int .i64 E ∧ w4 = w') ?_ fun kk hkk => ?_
    · rintro _ _ ⟨rfl, rfl⟩
      exact fin2 _ rfl
    · exact hkk _ _ ⟨by rw [hE2, h0], rfl⟩
  rw [r_eql]
  simp only [decide_eq_true h0]
  by_cases g1 : s < 0
  · have := jT (by rw [← hE, if_pos (.inl g1)])
    simp (disch := omega) only [r_ln, r_pick, r_pickT, r_pickF, r_condT, r_condF, r_gdTT, r_gdFF, r_gdTF, r_gdFT, r_gqTT, r_gqFF, r_gqTF, r_gqFT, r_not, r_lss, r_leq, r_gtr, r_geq, r_eql, r_neq, r_add, r_sub, r_min2, r_max2, r_min3, r_max3, r_fa, r_iaS, r_iaA, r_ex2a, r_ex2b, r_ex3a, r_ex3b, r_ex3c, r_nc, r_keepE, Nat.zero_add, Nat.add_zero, Nat.mul_one, Int.toNat_natCast, toNat_sub1, toNat_add1, decide_true, decide_false, Bool.not_true, Bool.not_false, if_true, if_false, Bool.false_eq_true, reduceCtorEq, r_gdU, decide_eq_true g1]
    exact this
  by_cases g2 : n ≤ s
  · have := jT (by rw [← hE, if_pos (.inr (.inl g2))])
    simp (disch := omega) only [r_ln, r_pick, r_pickT, r_pickF, r_condT, r_condF, r_gdTT, r_gdFF, r_gdTF, r_gdFT, r_gqTT, r_gqFF, r_gqTF, r_gqFT, r_not, r_lss, r_leq, r_gtr, r_geq, r_eql, r_neq, r_add, r_sub, r_min2, r_max2, r_min3, r_max3, r_fa, r_iaS, r_iaA, r_ex2a, r_ex2b, r_ex3a, r_ex3b, r_ex3c, r_nc, r_keepE, Nat.zero_add, Nat.add_zero, Nat.mul_one, Int.toNat_natCast, toNat_sub1, toNat_add1, decide_true, decide_false, Bool.not_true, Bool.not_false, if_true, if_false, Bool.false_eq_true, reduceCtorEq, r_gdU, g1, decide_eq_true g2]
    exact this
  by_cases g3 : t < 0
  · have := jT (by rw [← hE, if_pos (.inr (.inr (.inl g3)))])
    simp (disch := omega) only [r_ln, r_pick, r_pickT, r_pickF, r_condT, r_condF, r_gdTT, r_gdFF, r_gdTF, r_gdFT, r_gqTT, r_gqFF, r_gqTF, r_gqFT, r_not, r_lss, r_leq, r_gtr, r_geq, r_eql, r_neq, r_add, r_sub, r_min2, r_max2, r_min3, r_max3, r_fa, r_iaS, r_iaA, r_ex2a, r_ex2b, r_ex3a, r_ex3b, r_ex3c, r_nc, r_keepE, Nat.zero_add, Nat.add_zero, Nat.mul_one, Int.toNat_natCast, toNat_sub1, toNat_add1, decide_true, decide_false, Bool.not_true, Bool.not_false, if_true, if_false, Bool.false_eq_true, reduceCtorEq, r_gdU, g1, g2, decide_eq_true g3]
    exact this
  by_cases g4 : n ≤ t
  · have := jT (by rw [← hE, if_pos (.inr (.inr (.inr (.inl g4))))])
    simp (disch := omega) only [r_ln, r_pick, r_pickT, r_pickF, r_condT, r_condF, r_gdTT, r_gdFF, r_gdTF, r_gdFT, r_gqTT, r_gqFF, r_gqTF, r_gqFT, r_not, r_lss, r_leq, r_gtr, r_geq, r_eql, r_neq, r_add, r_sub, r_min2, r_max2, r_min3, r_max3, r_fa, r_iaS, r_iaA, r_ex2a, r_ex2b, r_ex3a, r_ex3b, r_ex3c, r_nc, r_keepE, Nat.zero_add, Nat.add_zero, Nat.mul_one, Int.toNat_natCast, toNat_sub1, toNat_add1, decide_true, decide_false, Bool.not_true, Bool.not_false, if_true, if_false, Bool.false_eq_true, reduceCtorEq, r_gdU, g1, g2, g3, decide_eq_true g4]
    exact this
  by_cases g5 : s = t
  · have := jT (by rw [← hE, if_pos (.inr (.inr (.inr (.inr g5))))])
    simp (disch := omega) only [r_ln, r_pick, r_pickT, r_pickF, r_condT, r_condF, r_gdTT, r_gdFF, r_gdTF, r_gdFT, r_gqTT, r_gqFF, r_gqTF, r_gqFT, r_not, r_lss, r_leq, r_gtr, r_geq, r_eql, r_neq, r_add, r_sub, r_min2, r_max2, r_min3, r_max3, r_fa, r_iaS, r_iaA, r_ex2a, r_ex2b, r_ex3a, r_ex3b, r_ex3c, r_nc, r_keepE, Nat.zero_add, Nat.add_zero, Nat.mul_one, Int.toNat_natCast, toNat_sub1, toNat_add1, decide_true, decide_false, Bool.not_true, Bool.not_false, if_true, if_false, Bool.false_eq_true, reduceCtorEq, r_gdU, g1, g2, g3, g4, decide_eq_true g5]
    exact this
  · have := jF (by rw [← hE, if_neg (by omega)])
    simp (disch := omega) only [r_ln, r_pick, r_pickT, r_pickF, r_condT, r_condF, r_gdTT, r_gdFF, r_gdTF, r_gdFT, r_gqTT, r_gqFF, r_gqTF, r_gqFT, r_not, r_lss, r_leq, r_gtr, r_geq, r_eql, r_neq, r_add, r_sub, r_min2, r_max2, r_min3, r_max3, r_fa, r_iaS, r_iaA, r_ex2a, r_ex2b, r_ex3a, r_ex3b, r_ex3c, r_nc, r_keepE, Nat.zero_add, Nat.add_zero, Nat.mul_one, Int.toNat_natCast, toNat_sub1, toNat_add1, decide_true, decide_false, Bool.not_true, Bool.not_false, if_true, if_false, Bool.false_eq_true, reduceCtorEq, r_gdU, g1, g2, g3, g4, g5]
    exact this

/-- What Trees returns. -/
noncomputable def treesV (n : Int) (L : List (Int × Int)) : Int := if netErr n L = 0 then trees n.toNat (L.map natW) else 0
noncomputable def mergedV (n : Int) (L : List (Int × Int)) (s t : Int) : Int := if endErr n L s t = 0 then volt n.toNat (L.map natW) s.toNat t.toNat else 0

set_option maxRecDepth 100000 in
theorem Trees_calls {v : Value} {L : List (Int × Int)} {n : Int} (w : World) (hw : Wh w) (hr : RdW w v L) :
    Calls Tryd.prog 24 #[.int .i64 n, v] w fun e w' => Kp w w' ∧ e = .returned (.tuple #[.int .i64 (treesV n L), .int .i64 (netErr n L)]) := by
  obtain ⟨a, cap, ev, _⟩ := hr.len
  refine lift24 ?_
  unfold S24
  refine r_use fok58 (of_calls (n := n) w hr) rfl ?_
  rintro _ w2 ⟨k2, rfl⟩
  refine ⟨_, rfl, ?_⟩
  rw [r_ex2a, r_ex2b]
  refine r_box fun b6 w3 e3 s3 h3 k3 => ?_
  have k03 := Kp.trans k2 k3
  have h3' : w3.heap[b6]? = some (.cells #[.int .i64 0, .slice none 0 0] 80 (0, 0)) := h3
  have hsz := k2.size
  unfold treesV
  by_cases h0 : netErr n L = 0
  · rw [if_pos h0, if_pos h0, ev]
    refine st80 h3' fun w4 c4 s4 h4 => ?_
    have k04 : Kp w w4 := Kp.of_chg k03 c4 fun q e => by omega
    rw [r_neq, decide_eq_true h0, Bool.not_true, r_condF, net_box h4]
    obtain ⟨N, rfl, hN, hb⟩ := net_ok h0
    rw [← ev]
    refine r_use fok55 (trees_calls w4 (hw.kp k04) hN (RdW.nat (hr.kp k04) hb)) rfl ?_
    rintro _ w5 ⟨rfl, k5⟩
    exact ⟨_, rfl, Kp.trans k04 k5, by rw [h0]; rfl⟩
  · rw [if_neg h0, if_neg h0]
    refine st80 h3' fun w4 c4 s4 h4 => ?_
    have k04 : Kp w w4 := Kp.of_chg k03 c4 fun q e => by omega
    rw [r_neq, decide_eq_false h0, Bool.not_false, r_condT]
    exact ⟨k04, rfl⟩

set_option maxRecDepth 100000 in
theorem Merged_calls {v : Value} {L : List (Int × Int)} {n s t : Int} (w : World) (hw : Wh w) (hr : RdW w v L) :
    Calls Tryd.prog 26 #[.int .i64 n, v, .int .i64 s, .int .i64 t] w fun e w' => Kp w w' ∧ e = .returned (.tuple #[.int .i64 (mergedV n L s t), .int .i64 (endErr n L s t)]) := by
  obtain ⟨a, cap, ev, _⟩ := hr.len
  refine lift26 ?_
  unfold S26
  refine r_use fok54 (between_calls (n := n) (s := s) (t := t) w hr) rfl ?_
  rintro _ w2 ⟨k2, rfl⟩
  refine ⟨_, rfl, ?_⟩
  rw [r_ex2a, r_ex2b]
  refine r_box fun b6 w3 e3 s3 h3 k3 => ?_
  have k03 := Kp.trans k2 k3
  have h3' : w3.heap[b6]? = some (.cells #[.int .i64 0, .slice none 0 0] 80 (0, 0)) := h3
  have hsz := k2.size
  unfold mergedV
  by_cases h0 : endErr n L s t = 0
  · obtain ⟨hn0, S, T, rfl, rfl, hS, hT, hST⟩ := end_ok h0
    rw [if_pos h0, if_pos hn0, ev]
    refine st80 h3' fun w4 c4 s4 h4 => ?_
    have k04 : Kp w w4 := Kp.of_chg k03 c4 fun q e => by omega
    rw [r_neq, decide_eq_true h0, Bool.not_true, r_condF, net_box h4]
    obtain ⟨N, rfl, hN, hb⟩ := net_ok hn0
    rw [← ev]
    refine r_use fok56 (merged_calls w4 (hw.kp k04) hN (RdW.nat (hr.kp k04) hb) (by omega) (by omega) hST) rfl ?_
    rintro _ w5 ⟨rfl, k5⟩
    exact ⟨_, rfl, Kp.trans k04 k5, by rw [h0]; rfl⟩
  · rw [if_neg h0]
    obtain ⟨k, a', m', c', hx⟩ : ∃ k a' m' c', (if netErr n L = 0 then netV n v else netV 0 nilS) = netV k (.slice a' m' c') := by
      split
      · exact ⟨_, _, _, _, by rw [ev]⟩
      · exact ⟨_, _, _, _, rfl⟩
    rw [hx]
    refine st80 h3' fun w4 c4 s4 h4 => ?_
    have k04 : Kp w w4 := Kp.of_chg k03 c4 fun q e => by omega
    rw [r_neq, decide_eq_false h0, Bool.not_false, r_condT]
    exact ⟨k04, rfl⟩

end Go.Proofs.YtkdcldbedbagjaaDoor
