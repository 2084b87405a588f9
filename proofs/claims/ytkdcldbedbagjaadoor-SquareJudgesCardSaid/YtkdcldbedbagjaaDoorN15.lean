/- Texts of my own, merged by program: Ja Gc Gd. -/
import Derived.Test.YtkdcldbedbagjaaDoorN14
import Derived.Test.YtkdcldbedbagjaaDoorN06
set_option linter.all false
/- Contracts of the reference: fits, Is. -/
namespace Go.Proofs.YtkdcldbedbagjaaDoor
open Go.Lf Go.RowKit Go.Dt

set_option maxRecDepth 100000 in
set_option maxHeartbeats 2000000 in
theorem r45_1 {W H : Int} {L : List T3} {i b9 : Nat} {A : Int} {v : Value} {w0 : World} {next : Value → Value → World → Prop} {R : Ending → World → Prop} (hW : rectB W = true) (hH : rectB H = true) (hi : i < L.length) (hl : L.length ≤ 16) (hr : RdS w0 v L) (hb : ∀ k, k < i → stepB W H L k = true) (hf : fitsB W H (L.getD i (0, 0, 0)) = true)
    (h9 : w0.heap[b9]? = some (.cells #[.int .i64 (L.getD i (0, 0, 0)).1, .int .i64 (L.getD i (0, 0, 0)).2.1, .int .i64 (L.getD i (0, 0, 0)).2.2] 44 (0, 0))) (hA : A = area (L.take i))
    (hnext : ∀ w', Kp w0 w' → stepB W H L i = true → next (.int .i64 (area (L.take (i + 1)))) (.int .i64 ((i : Int) + 1)) w') (hR : ∀ w', Kp w0 w' → stepB W H L i = false → R (.returned (.bool false)) w') :
    S45L1 v (.int .i64 A) (.int .i64 i) (ptrV b9) next R w0 := by
  have hW' := of_decide_eq_true hW
  have hH' := of_decide_eq_true hH
  have hf' := fits_iff.1 hf
  have hlt0 : (L.take i).length = i := by rw [List.length_take]; omega
  unfold S45L1
  refine ⟨fun t wr => ∃ k : Nat, k ≤ i ∧ t = .int .i64 k ∧ (∀ o ∈ L.take k, overB (L.getD i (0, 0, 0)) o = false) ∧ Kp w0 wr, fun t _ => i - (intOf t).toNat, ⟨0, by omega, rfl, by simp, Kp.refl _⟩, ?_⟩
  rintro _ _ wr ⟨k, hk, rfl, hno, kr⟩
  have h9r := block_below h9 kr
  by_cases hlt : k < i
  case neg =>
    have hlt' : ¬ (k : Int) < (i : Int) := by omega
    obtain rfl : k = i := by omega
    have hst : stepB W H L k = true := by
      unfold stepB
      rw [hf, Bool.true_and, List.all_eq_true]
      intro o ho
      rw [hno o ho]; rfl
    have hsm := area_small (L := L) (h := H) (i := k) (w := W) hW'.2 (by omega) hb
    have hsn : area (L.take (k + 1)) = A + (L.getD k (0, 0, 0)).2.2 * (L.getD k (0, 0, 0)).2.2 := by
      rw [take_succ' _ _ hi, area_snoc, hA, ← getD_lt _ _ (0, 0, 0) hi]
    obtain ⟨c0, c1, c2⟩ := tri_cells (p := L.getD k (0, 0, 0)) h9r
    have h3 := sq_le (a := (L.getD k (0, 0, 0)).2.2) (b := 1000) (by omega) (by omega)
    simp only [r_lss, hlt', decide_false, r_condF]
    rw [r_fa, r_ld c2, r_fa, r_ld c2, r_mul _ _ (by omega) (by omega), r_add _ _ (by omega) (by omega), r_add _ _ (by omega) (by omega), ← hsn]
    exact hnext wr kr hst
  have hlt' : (k : Int) < (i : Int) := by omega
  simp only [r_lss, decide_eq_true hlt', r_condT]
  rw [tri_at (hr.kp kr) (by omega)]
  have hfk := fits_iff.1 (step_fits (hb k hlt))
  refine r_box fun b11 w1 e11 s11 h11 k1 => ?_
  have h11' : w1.heap[b11]? = some (.cells #[.int .i64 0, .int .i64 0, .int .i64 0] 44 (0, 0)) := h11
  refine st44 h11' fun w2 c2 s2 h112 => ?_
  have k2 : Kp wr w2 := Kp.of_chg k1 c2 fun q e => by omega
  have h92 := block_below h9r k2
  obtain ⟨s0, s1, ss⟩ := tri_cells (p := L.getD i (0, 0, 0)) h92
  obtain ⟨o0, o1, oo⟩ := tri_cells (p := L.getD k (0, 0, 0)) h112
  have k02 := Kp.trans kr k2
  have fin : ∀ b : Bool, b = overB (L.getD i (0, 0, 0)) (L.getD k (0, 0, 0)) → condW (.bool b) (R (.returned (.bool false)) w2) (binQ Tryd.prog w2 .add 3 true (.int .i64 k) (.int .i64 1) fun t70 => (∃ k : Nat, k ≤ i ∧ t70 = .int .i64 k ∧ (∀ o ∈ L.take k, overB (L.getD i (0, 0, 0)) o = false) ∧ Kp w0 w2) ∧ i - (intOf t70).toNat < i - (intOf (.int .i64 (k : Int))).toNat) := fun b hbb => by
    cases hov : overB (L.getD i (0, 0, 0)) (L.getD k (0, 0, 0)) with
    | true =>
      rw [hbb, hov, r_condT]
      refine hR w2 k02 ?_
      unfold stepB
      have : ((L.take i).all fun o => !overB (L.getD i (0, 0, 0)) o) = false := by
        rw [← Bool.not_eq_true, List.all_eq_true]
        intro h
        have := h L[k] (List.mem_take_iff_getElem.2 ⟨k, by omega, rfl⟩)
        rw [← getD_lt _ _ (0, 0, 0) (by omega), hov] at this; cases this
      rw [this, Bool.and_false]
    | false =>
      rw [hbb, hov, r_condF, r_add _ _ (by omega) (by omega)]
      refine ⟨⟨k + 1, by omega, by go_num, fun o ho => ?_, k02⟩, by simp only [intOf]; omega⟩
      rw [take_succ' _ _ (by omega)] at ho
      rcases List.mem_append.1 ho with h | h
      · exact hno o h
      · simp at h
        rw [h, ← getD_lt _ _ (0, 0, 0) (by omega)]; exact hov
  clear hnext hR
  generalize L.getD i (0, 0, 0) = s at *
  generalize L.getD k (0, 0, 0) = o at *
  by_cases g1 : o.1 < s.1 + s.2.2
  case neg =>
    have := fin false (decide_eq_false fun h => g1 h.2.1).symm
    simp (disch := omega) only [r_ln, r_pick, r_pickT, r_pickF, r_condT, r_condF, r_gdTT, r_gdFF, r_gdTF, r_gdFT, r_gqTT, r_gqFF, r_gqTF, r_gqFT, r_not, r_lss, r_leq, r_gtr, r_geq, r_eql, r_neq, r_add, r_sub, r_min2, r_max2, r_min3, r_max3, r_fa, r_iaS, r_iaA, r_ex2a, r_ex2b, r_ex3a, r_ex3b, r_ex3c, r_nc, r_keepE, Nat.zero_add, Nat.add_zero, Nat.mul_one, Int.toNat_natCast, toNat_sub1, toNat_add1, decide_true, decide_false, Bool.not_true, Bool.not_false, if_true, if_false, Bool.false_eq_true, reduceCtorEq, r_gdU, r_ld s0, r_ld o0, r_ld ss, g1] at this ⊢
    exact this
  by_cases g2 : s.1 < o.1 + o.2.2
  case neg =>
    have := fin false (decide_eq_false fun h => g2 h.1).symm
    simp (disch := omega) only [r_ln, r_pick, r_pickT, r_pickF, r_condT, r_condF, r_gdTT, r_gdFF, r_gdTF, r_gdFT, r_gqTT, r_gqFF, r_gqTF, r_gqFT, r_not, r_lss, r_leq, r_gtr, r_geq, r_eql, r_neq, r_add, r_sub, r_min2, r_max2, r_min3, r_max3, r_fa, r_iaS, r_iaA, r_ex2a, r_ex2b, r_ex3a, r_ex3b, r_ex3c, r_nc, r_keepE, Nat.zero_add, Nat.add_zero, Nat.mul_one, Int.toNat_natCast, toNat_sub1, toNat_add1, decide_true, decide_false, Bool.not_true, Bool.not_false, if_true, if_false, Bool.false_eq_true, reduceCtorEq, r_gdU, r_ld s0, r_ld o0, r_ld oo, r_ld ss, decide_eq_true g1, g2] at this ⊢
    exact this
  by_cases g3 : o.2.1 < s.2.1 + s.2.2
  case neg =>
    have := fin false (decide_eq_false fun h => g3 h.2.2.2).symm
    simp (disch := omega) only [r_ln, r_pick, r_pickT, r_pickF, r_condT, r_condF, r_gdTT, r_gdFF, r_gdTF, r_gdFT, r_gqTT, r_gqFF, r_gqTF, r_gqFT, r_not, r_lss, r_leq, r_gtr, r_geq, r_eql, r_neq, r_add, r_sub, r_min2, r_max2, r_min3, r_max3, r_fa, r_iaS, r_iaA, r_ex2a, r_ex2b, r_ex3a, r_ex3b, r_ex3c, r_nc, r_keepE, Nat.zero_add, Nat.add_zero, Nat.mul_one, Int.toNat_natCast, toNat_sub1, toNat_add1, decide_true, decide_false, Bool.not_true, Bool.not_false, if_true, if_false, Bool.false_eq_true, reduceCtorEq, r_gdU, r_ld s0, r_ld o0, r_ld oo, r_ld ss, r_ld s1, r_ld o1, decide_eq_true g1, decide_eq_true g2, g3] at this ⊢
    exact this
  by_cases g4 : s.2.1 < o.2.1 + o.2.2
  case neg =>
    have := fin false (decide_eq_false fun h => g4 h.2.2.1).symm
    simp (disch := omega) only [r_ln, r_pick, r_pickT, r_pickF, r_condT, r_condF, r_gdTT, r_gdFF, r_gdTF, r_gdFT, r_gqTT, r_gqFF, r_gqTF, r_gqFT, r_not, r_lss, r_leq, r_gtr, r_geq, r_eql, r_neq, r_add, r_sub, r_min2, r_max2, r_min3, r_max3, r_fa, r_iaS, r_iaA, r_ex2a, r_ex2b, r_ex3a, r_ex3b, r_ex3c, r_nc, r_keepE, Nat.zero_add, Nat.add_zero, Nat.mul_one, Int.toNat_natCast, toNat_sub1, toNat_add1, decide_true, decide_false, Bool.not_true, Bool.not_false, if_true, if_false, Bool.false_eq_true, reduceCtorEq, r_gdU, r_ld s0, r_ld o0, r_ld oo, r_ld ss, r_ld s1, r_ld o1, decide_eq_true g1, decide_eq_true g2, decide_eq_true g3, g4] at this ⊢
    exact this
  have := fin true (decide_eq_true ⟨g2, g1, g4, g3⟩).symm
  simp (disch := omega) only [r_ln, r_pick, r_pickT, r_pickF, r_condT, r_condF, r_gdTT, r_gdFF, r_gdTF, r_gdFT, r_gqTT, r_gqFF, r_gqTF, r_gqFT, r_not, r_lss, r_leq, r_gtr, r_geq, r_eql, r_neq, r_add, r_sub, r_min2, r_max2, r_min3, r_max3, r_fa, r_iaS, r_iaA, r_ex2a, r_ex2b, r_ex3a, r_ex3b, r_ex3c, r_nc, r_keepE, Nat.zero_add, Nat.add_zero, Nat.mul_one, Int.toNat_natCast, toNat_sub1, toNat_add1, decide_true, decide_false, Bool.not_true, Bool.not_false, if_true, if_false, Bool.false_eq_true, reduceCtorEq, r_gdU, r_ld s0, r_ld o0, r_ld oo, r_ld ss, r_ld s1, r_ld o1, decide_eq_true g1, decide_eq_true g2, decide_eq_true g3, decide_eq_true g4] at this ⊢
  exact this

set_option maxRecDepth 100000 in
set_option maxHeartbeats 2000000 in
theorem rfits_calls {v : Value} {W H : Int} {L : List T3} (w : World) (hW : rectB W = true) (hH : rectB H = true) (hr : RdS w v L) (hl : L.length ≤ 16) : Calls Tryd.prog 45 #[.int .i64 W, .int .i64 H, v] w fun e w' => e = .returned (.bool (isB W H L)) ∧ Kp w w' := by
  have hW' := of_decide_eq_true hW
  have hH' := of_decide_eq_true hH
  obtain ⟨a, cap, ev, _⟩ := hr.len
  have lnv : ∀ K : Value → Prop, ln1 v K = K (.int .i64 L.length) := fun K => by rw [ev]; rfl
  refine lift45 ?_
  unfold S45
  unfold S45L0
  refine ⟨fun t7 t8 wr => ∃ i : Nat, i ≤ L.length ∧ t7 = .int .i64 (area (L.take i)) ∧ t8 = .int .i64 i ∧ (∀ k, k < i → stepB W H L k = true) ∧ Kp w wr, fun _ t8 _ => L.length - (intOf t8).toNat, ⟨0, by omega, rfl, rfl, fun k hk => by omega, Kp.refl _⟩, ?_⟩
  rintro _ _ _ wr ⟨i, hi, rfl, rfl, hb, kr⟩
  rw [lnv]
  by_cases hlt : i < L.length
  case neg =>
    have hlt' : ¬ (i : Int) < (L.length : Int) := by omega
    obtain rfl : i = L.length := by omega
    simp only [r_lss, hlt', decide_false, r_condF]
    have h1 : 0 ≤ W * H ∧ W * H ≤ 1000 * 1000 := ⟨Int.mul_nonneg (by omega) (by omega), Int.mul_le_mul hW'.2 hH'.2 (by omega) (by omega)⟩
    rw [r_mul _ _ (by omega) (by omega), r_eql, List.take_of_length_le (Nat.le_refl _), isB_good hb]
    exact ⟨rfl, kr⟩
  have hlt' : (i : Int) < (L.length : Int) := by omega
  simp only [r_lss, decide_eq_true hlt', r_condT]
  rw [tri_at (hr.kp kr) hlt]
  refine r_box fun b9 w1 e9 s9 h9 k1 => ?_
  have h9' : w1.heap[b9]? = some (.cells #[.int .i64 0, .int .i64 0, .int .i64 0] 44 (0, 0)) := h9
  refine st44 h9' fun w2 c2 s2 h92 => ?_
  have k2 : Kp wr w2 := Kp.of_chg k1 c2 fun q e => by omega
  have k02 := Kp.trans kr k2
  obtain ⟨s0, s1, ss⟩ := tri_cells (p := L.getD i (0, 0, 0)) h92
  have bad : fitsB W H (L.getD i (0, 0, 0)) = false → Ending.returned (Value.bool false) = .returned (.bool (isB W H L)) ∧ Kp w w2 := fun h => ⟨ret_bool (isB_bad hlt (by unfold stepB; rw [h]; rfl)).symm, k02⟩
  have go : fitsB W H (L.getD i (0, 0, 0)) = true → S45L1 v (.int .i64 (area (L.take i))) (.int .i64 i) (ptrV b9) (fun t7 t8 wr' => (∃ i : Nat, i ≤ L.length ∧ t7 = .int .i64 (area (L.take i)) ∧ t8 = .int .i64 i ∧ (∀ k, k < i → stepB W H L k = true) ∧ Kp w wr') ∧ L.length - (intOf t8).toNat < L.length - (intOf (.int .i64 (i : Int))).toNat) (fun e w' => e = .returned (.bool (isB W H L)) ∧ Kp w w') w2 := fun hf => by
    refine r45_1 hW hH hlt hl (hr.kp k02) hb hf h92 rfl (fun w' k' hst => ?_) fun w' k' hst => ⟨ret_bool (isB_bad hlt hst).symm, Kp.trans k02 k'⟩
    refine ⟨⟨i + 1, by omega, rfl, by go_num, fun k hk => ?_, Kp.trans k02 k'⟩, by simp only [intOf]; omega⟩
    by_cases e : k = i
    · rw [e]; exact hst
    · exact hb k (by omega)
  generalize L.getD i (0, 0, 0) = s at *
  by_cases g1 : s.2.2 < 1
  · simp (disch := omega) only [r_ln, r_pick, r_pickT, r_pickF, r_condT, r_condF, r_gdTT, r_gdFF, r_gdTF, r_gdFT, r_gqTT, r_gqFF, r_gqTF, r_gqFT, r_not, r_lss, r_leq, r_gtr, r_geq, r_eql, r_neq, r_add, r_sub, r_min2, r_max2, r_min3, r_max3, r_fa, r_iaS, r_iaA, r_ex2a, r_ex2b, r_ex3a, r_ex3b, r_ex3c, r_nc, r_keepE, Nat.zero_add, Nat.add_zero, Nat.mul_one, Int.toNat_natCast, toNat_sub1, toNat_add1, decide_true, decide_false, Bool.not_true, Bool.not_false, if_true, if_false, Bool.false_eq_true, reduceCtorEq, r_gdU, r_ld ss, decide_eq_true g1]
    exact bad (decide_eq_false fun h => by omega)
  by_cases g2 : 1000 < s.2.2
  · simp (disch := omega) only [r_ln, r_pick, r_pickT, r_pickF, r_condT, r_condF, r_gdTT, r_gdFF, r_gdTF, r_gdFT, r_gqTT, r_gqFF, r_gqTF, r_gqFT, r_not, r_lss, r_leq, r_gtr, r_geq, r_eql, r_neq, r_add, r_sub, r_min2, r_max2, r_min3, r_max3, r_fa, r_iaS, r_iaA, r_ex2a, r_ex2b, r_ex3a, r_ex3b, r_ex3c, r_nc, r_keepE, Nat.zero_add, Nat.add_zero, Nat.mul_one, Int.toNat_natCast, toNat_sub1, toNat_add1, decide_true, decide_false, Bool.not_true, Bool.not_false, if_true, if_false, Bool.false_eq_true, reduceCtorEq, r_gdU, r_ld ss, g1, decide_eq_true g2]
    exact bad (decide_eq_false fun h => by omega)
  by_cases g3 : s.1 < 0
  · simp (disch := omega) only [r_ln, r_pick, r_pickT, r_pickF, r_condT, r_condF, r_gdTT, r_gdFF, r_gdTF, r_gdFT, r_gqTT, r_gqFF, r_gqTF, r_gqFT, r_not, r_lss, r_leq, r_gtr, r_geq, r_eql, r_neq, r_add, r_sub, r_min2, r_max2, r_min3, r_max3, r_fa, r_iaS, r_iaA, r_ex2a, r_ex2b, r_ex3a, r_ex3b, r_ex3c, r_nc, r_keepE, Nat.zero_add, Nat.add_zero, Nat.mul_one, Int.toNat_natCast, toNat_sub1, toNat_add1, decide_true, decide_false, Bool.not_true, Bool.not_false, if_true, if_false, Bool.false_eq_true, reduceCtorEq, r_gdU, r_ld ss, r_ld s0, g1, g2, decide_eq_true g3]
    exact bad (decide_eq_false fun h => by omega)
  by_cases g4 : W - s.2.2 < s.1
  · simp (disch := omega) only [r_ln, r_pick, r_pickT, r_pickF, r_condT, r_condF, r_gdTT, r_gdFF, r_gdTF, r_gdFT, r_gqTT, r_gqFF, r_gqTF, r_gqFT, r_not, r_lss, r_leq, r_gtr, r_geq, r_eql, r_neq, r_add, r_sub, r_min2, r_max2, r_min3, r_max3, r_fa, r_iaS, r_iaA, r_ex2a, r_ex2b, r_ex3a, r_ex3b, r_ex3c, r_nc, r_keepE, Nat.zero_add, Nat.add_zero, Nat.mul_one, Int.toNat_natCast, toNat_sub1, toNat_add1, decide_true, decide_false, Bool.not_true, Bool.not_false, if_true, if_false, Bool.false_eq_true, reduceCtorEq, r_gdU, r_ld ss, r_ld s0, g1, g2, g3, decide_eq_true g4]
    exact bad (decide_eq_false fun h => by omega)
  by_cases g5 : s.2.1 < 0
  · simp (disch := omega) only [r_ln, r_pick, r_pickT, r_pickF, r_condT, r_condF, r_gdTT, r_gdFF, r_gdTF, r_gdFT, r_gqTT, r_gqFF, r_gqTF, r_gqFT, r_not, r_lss, r_leq, r_gtr, r_geq, r_eql, r_neq, r_add, r_sub, r_min2, r_max2, r_min3, r_max3, r_fa, r_iaS, r_iaA, r_ex2a, r_ex2b, r_ex3a, r_ex3b, r_ex3c, r_nc, r_keepE, Nat.zero_add, Nat.add_zero, Nat.mul_one, Int.toNat_natCast, toNat_sub1, toNat_add1, decide_true, decide_false, Bool.not_true, Bool.not_false, if_true, if_false, Bool.false_eq_true, reduceCtorEq, r_gdU, r_ld ss, r_ld s0, r_ld s1, g1, g2, g3, g4, decide_eq_true g5]
    exact bad (decide_eq_false fun h => by omega)
  by_cases g6 : H - s.2.2 < s.2.1
  · simp (disch := omega) only [r_ln, r_pick, r_pickT, r_pickF, r_condT, r_condF, r_gdTT, r_gdFF, r_gdTF, r_gdFT, r_gqTT, r_gqFF, r_gqTF, r_gqFT, r_not, r_lss, r_leq, r_gtr, r_geq, r_eql, r_neq, r_add, r_sub, r_min2, r_max2, r_min3, r_max3, r_fa, r_iaS, r_iaA, r_ex2a, r_ex2b, r_ex3a, r_ex3b, r_ex3c, r_nc, r_keepE, Nat.zero_add, Nat.add_zero, Nat.mul_one, Int.toNat_natCast, toNat_sub1, toNat_add1, decide_true, decide_false, Bool.not_true, Bool.not_false, if_true, if_false, Bool.false_eq_true, reduceCtorEq, r_gdU, r_ld ss, r_ld s0, r_ld s1, g1, g2, g3, g4, g5, decide_eq_true g6]
    exact bad (decide_eq_false fun h => by omega)
  simp (disch := omega) only [r_ln, r_pick, r_pickT, r_pickF, r_condT, r_condF, r_gdTT, r_gdFF, r_gdTF, r_gdFT, r_gqTT, r_gqFF, r_gqTF, r_gqFT, r_not, r_lss, r_leq, r_gtr, r_geq, r_eql, r_neq, r_add, r_sub, r_min2, r_max2, r_min3, r_max3, r_fa, r_iaS, r_iaA, r_ex2a, r_ex2b, r_ex3a, r_ex3b, r_ex3c, r_nc, r_keepE, Nat.zero_add, Nat.add_zero, Nat.mul_one, Int.toNat_natCast, toNat_sub1, toNat_add1, decide_true, decide_false, Bool.not_true, Bool.not_false, if_true, if_false, Bool.false_eq_true, reduceCtorEq, r_gdU, r_ld ss, r_ld s0, r_ld s1, g1, g2, g3, g4, g5, g6]
  exact go (decide_eq_true (by omega))

set_option maxRecDepth 100000 in
theorem rIs_calls {v : Value} {W H : Int} {L : List T3} (w : World) (hr : RdS w v L) : Calls Tryd.prog 16 #[.int .i64 W, .int .i64 H, v] w fun e w' => e = .returned (.tuple #[.bool (isV W H L), .int .i64 (isE W H L)]) ∧ Kp w w' := by
  obtain ⟨a, cap, ev, _⟩ := hr.len
  have lnv : ∀ K : Value → Prop, ln1 v K = K (.int .i64 L.length) := fun K => by rw [ev]; rfl
  refine lift16 ?_
  unfold S16
  refine r_use fok44 (sheet_calls W H w) rfl ?_
  rintro _ _ ⟨rfl, rfl⟩
  refine ⟨_, rfl, ?_⟩
  unfold isV
  rw [r_not]
  cases hB : (rectB W && rectB H) with
  | false =>
    have hE : isE W H L = 2 := by unfold isE; rw [hB]; rfl
    rw [hE, Bool.not_false, r_condT]
    exact ⟨rfl, Kp.refl _⟩
  | true =>
    rw [Bool.not_true, r_condF, lnv, r_gtr]
    have hE : isE W H L = if 16 < L.length then 3 else 0 := by unfold isE; rw [hB]; rfl
    rw [hE]
    rw [Bool.and_eq_true] at hB
    by_cases hl : (16 : Int) < (L.length : Int)
    · rw [if_pos (by omega), decide_eq_true hl, r_condT]
      exact ⟨rfl, Kp.refl _⟩
    · rw [if_neg (by omega), decide_eq_false hl, r_condF]
      refine r_use fok45 (rfits_calls w hB.1 hB.2 hr (by omega)) rfl ?_
      rintro _ w2 ⟨rfl, k2⟩
      exact ⟨_, rfl, rfl, k2⟩

end Go.Proofs.YtkdcldbedbagjaaDoor

/- How many spanning trees have a wire, and Foster's theorem, plainly. No program. -/
namespace Go.Dt

theorem cnt_cons (P : List Wr → Prop) (e : Wr) (l : List Wr) : cnt P (e :: l) = cnt P l + cnt (fun s => P (e :: s)) l := rfl

/-- How many of the sets that are counted have the wire with that index. -/
noncomputable def withI : Nat → (List Wr → Prop) → List Wr → Nat
  | _, _, [] => 0
  | 0, P, e :: l => cnt (fun s => P (e :: s)) l
  | i + 1, P, e :: l => withI i P l + withI i (fun s => P (e :: s)) l

def sumL (f : Nat → Nat) : Nat → Nat
  | 0 => 0
  | n + 1 => f 0 + sumL (fun i => f (i + 1)) n
theorem sumL_add (f g : Nat → Nat) : ∀ n, sumL (fun i => f i + g i) n = sumL f n + sumL g n := by
  intro n
  induction n generalizing f g with
  | zero => rfl
  | succ n ih => simp only [sumL]; rw [ih (fun i => f (i + 1)) (fun i => g (i + 1))]; omega
theorem sumL_congr {f g : Nat → Nat} {n : Nat} (h : ∀ i, i < n → f i = g i) : sumL f n = sumL g n := by
  induction n generalizing f g with
  | zero => rfl
  | succ n ih => simp only [sumL]; rw [h 0 (by omega), ih fun i hi => h (i + 1) (by omega)]
theorem sumL_last (f : Nat → Nat) (n : Nat) : sumL f (n + 1) = sumL f n + f n := by
  induction n generalizing f with
  | zero => simp [sumL]
  | succ n ih =>
    rw [show sumL f (n + 2) = f 0 + sumL (fun i => f (i + 1)) (n + 1) from rfl, ih]
    simp only [sumL]; omega

theorem with_sum : ∀ {l : List Wr} {P : List Wr → Prop} {m : Nat}, (∀ s, s.Sublist l → P s → s.length = m) → sumL (fun i => withI i P l) l.length = m * cnt P l
  | [], P, m, h => by
    simp only [List.length_nil, sumL]
    unfold cnt
    split
    · have := h [] (List.Sublist.refl _) (by assumption)
      rw [← this]; rfl
    · rfl
  | e :: l, P, m, h => by
    have e1 : sumL (fun i => withI i P (e :: l)) (e :: l).length = cnt (fun s => P (e :: s)) l + (sumL (fun i => withI i P l) l.length + sumL (fun i => withI i (fun s => P (e :: s)) l) l.length) := by
      rw [List.length_cons, ← sumL_add]; rfl
    rw [e1, with_sum (P := P) fun s hs => h s (hs.cons _), cnt_cons]
    match m, h with
    | 0, h =>
      have z : cnt (fun s => P (e :: s)) l = 0 := cnt_false fun s hs hp => by have := h _ (hs.cons_cons e) hp; simp at this
      rw [with_sum (P := fun s => P (e :: s)) (m := 0) fun s hs hp => by have := h _ (hs.cons_cons e) hp; simp at this, z]
      simp
    | m + 1, h =>
      rw [with_sum (P := fun s => P (e :: s)) (m := m) fun s hs hp => by have := h _ (hs.cons_cons e) hp; simpa using this]
      rw [Nat.mul_add, Nat.add_mul m 1 (cnt (fun s => P (e :: s)) l)]
      omega

theorem with_at : ∀ {i : Nat} {l : List Wr} {P : List Wr → Prop} (_ : ∀ s s', s.Perm s' → P s → P s') (hi : i < l.length), withI i P l = cnt (fun s => P (l[i] :: s)) (l.eraseIdx i)
  | i, [], P, _, hi => absurd hi (by simp)
  | 0, e :: l, P, _, _ => rfl
  | i + 1, e :: l, P, hp, hi => by
    have hi' : i < l.length := by simpa using hi
    simp only [withI, List.eraseIdx_cons_succ, List.getElem_cons_succ]
    rw [with_at hp hi', with_at (P := fun s => P (e :: s)) (fun s s' p => hp _ _ (p.cons e)) hi', cnt_cons]
    rw [cnt_iff (P := fun s => P (e :: l[i] :: s)) (Q := fun s => P (l[i] :: e :: s)) fun s _ => ⟨hp _ _ (List.Perm.swap ..), hp _ _ (List.Perm.swap ..)⟩]

theorem perm_at : ∀ {i : Nat} {l : List Wr} (hi : i < l.length), l.Perm (l[i] :: l.eraseIdx i)
  | i, [], hi => absurd hi (by simp)
  | 0, e :: l, _ => List.Perm.refl _
  | i + 1, e :: l, hi => by
    have hi' : i < l.length := by simpa using hi
    simp only [List.eraseIdx_cons_succ, List.getElem_cons_succ]
    exact ((perm_at hi').cons e).trans (List.Perm.swap ..)

/-- The trees that have a wire are as many as the forests of two between its ends. -/
theorem with_volt {n : Nat} {l : List Wr} (hl : Wf n l) {i : Nat} (hi : i < l.length) : withI i (RF n (one 0)) l = volt n l l[i].1 l[i].2 := by
  have hw := hl _ (List.getElem_mem hi)
  have hl' : Wf n (l[i] :: l.eraseIdx i) := fun x hx => hl x ((perm_at hi).symm.subset hx)
  rw [with_at (PI_RF n _) hi]
  unfold volt
  rw [cnt_perm (perm_at hi) (PI_RF n _), cnt_cons]
  rw [cnt_false (P := fun s => RF n (ins (one l[i].2) l[i].1) (l[i] :: s)) fun s hs => RF.shut (fun x hx => hl' x ((hs.cons_cons _).subset hx)) (ins_self _ _) (ins_of (one_self _)), Nat.add_zero]
  refine cnt_iff fun s hs => ?_
  have hls : Wf n (l[i] :: s) := fun x hx => hl' x ((hs.cons_cons _).subset hx)
  rw [← RF.grow' hls (one_self _) (one_not hw.2.2)]
  exact ⟨RF_one (by omega) hw.2.1, RF_one hw.2.1 (by omega)⟩

/-- FOSTER. -/
theorem foster {n : Nat} {l : List Wr} (hl : Wf n l) (hn : 1 ≤ n) : sumL (fun i => volt n l (l.getD i (0, 0)).1 (l.getD i (0, 0)).2) l.length = (n - 1) * trees n l := by
  unfold trees
  rw [← with_sum (P := RF n (one 0)) (m := n - 1) fun s _ h => by have := h.1; rw [cnt_one (by omega)] at this; omega]
  refine sumL_congr fun i hi => ?_
  rw [with_volt hl hi]
  simp [List.getD_eq_getElem?_getD, hi]

end Go.Dt

/- Rayleigh's law and the triangle, plainly: one wire more, and three vertices. No program. -/
namespace Go.Dt

/-- y^T L x is symmetric. -/
theorem lap_swap {n : Nat} (x y : Nat → Int) {l : List Wr} (hl : Wf n l) : sumN (fun i => x i * sumN (fun j => lap l i j * y j) n) n = sumN (fun i => y i * sumN (fun j => lap l i j * x j) n) n := by
  rw [lap_form x y hl, lap_form y x hl]
  congr 1
  exact List.map_congr_left fun e _ => Int.mul_comm _ _

theorem sum_ends {n : Nat} {s t : Nat} (hs : s < n) (ht : t < n) (c : Int) (x : Nat → Int) : sumN (fun i => x i * (c * (unit s i - unit t i))) n = c * (x s - x t) := by
  rw [sum_congr (g := fun i => c * (unit s i * x i - unit t i * x i)) fun i _ => by grind]
  rw [sum_mul, sum_sub, sum_one (f := fun i => unit s i * x i) hs fun i _ h => by simp [unit, h], sum_one (f := fun i => unit t i * x i) ht fun i _ h => by simp [unit, h]]
  simp [unit]

theorem trees_cons {n : Nat} {e : Wr} {l : List Wr} (hl : Wf n (e :: l)) : trees n (e :: l) = trees n l + volt n l e.1 e.2 := by
  have hw := hl e (List.mem_cons_self ..)
  have h := with_volt hl (i := 0) (by simp)
  have e1 : withI 0 (RF n (one 0)) (e :: l) = cnt (fun s => RF n (one 0) (e :: s)) l := rfl
  unfold trees
  rw [cnt_cons]
  congr 1
  have h2 : volt n (e :: l) e.1 e.2 = volt n l e.1 e.2 := by
    unfold volt
    rw [cnt_cons, cnt_false (P := fun s => RF n (ins (one e.2) e.1) (e :: s)) fun s hs => RF.shut (fun x hx => hl x ((hs.cons_cons _).subset hx)) (ins_self _ _) (ins_of (one_self _)), Nat.add_zero]
  rw [← e1, h]
  exact h2

theorem lap_more {n : Nat} (e : Wr) (l : List Wr) (x : Nat → Int) (i : Nat) (h1 : e.1 < n) (h2 : e.2 < n) : sumN (fun j => lap (e :: l) i j * x j) n = sumN (fun j => lap l i j * x j) n + ends e i * (x e.1 - x e.2) := by
  rw [← ends_sum x h1 h2, ← sum_mul, ← sum_add]
  refine sum_congr fun j _ => ?_
  simp only [lap]
  grind

theorem lap_add3 {n : Nat} (l : List Wr) (x y z : Nat → Int) (a b c : Int) (i : Nat) : sumN (fun j => lap l i j * (a * x j + b * y j + c * z j)) n = a * sumN (fun j => lap l i j * x j) n + b * sumN (fun j => lap l i j * y j) n + c * sumN (fun j => lap l i j * z j) n := by
  rw [← sum_mul, ← sum_mul, ← sum_mul, ← sum_add, ← sum_add]
  exact sum_congr fun j _ => by grind

/-- RAYLEIGH: one wire more never makes a resistance greater. -/
theorem rayleigh {n s t : Nat} {e : Wr} {l : List Wr} (hl : Wf n (e :: l)) (ls : s < n) (lt : t < n) (hst : s ≠ t) (h0 : trees n l ≠ 0) :
    volt n (e :: l) s t * trees n l ≤ volt n l s t * trees n (e :: l) := by
  have hw := hl e (List.mem_cons_self ..)
  have hl' := hl.tail
  have hx := fun i hi => pot_lap (i := i) hl' ls lt hst hi
  have hx' := fun i hi => pot_lap (i := i) hl ls lt hst hi
  have hy := fun i hi => pot_lap (i := i) hl' hw.1 hw.2.1 hw.2.2 hi
  have x1 : (pot n l s t s : Int) = volt n l s t := by rw [pot_s hst]
  have x2 : (pot n l s t t : Int) = 0 := by rw [pot_t]; rfl
  have x1' : (pot n (e :: l) s t s : Int) = volt n (e :: l) s t := by rw [pot_s hst]
  have x2' : (pot n (e :: l) s t t : Int) = 0 := by rw [pot_t]; rfl
  have y1 : (pot n l e.1 e.2 e.1 : Int) = volt n l e.1 e.2 := by rw [pot_s hw.2.2]
  have y2 : (pot n l e.1 e.2 e.2 : Int) = 0 := by rw [pot_t]; rfl
  generalize hX : (fun v => (pot n l s t v : Int)) = x at *
  generalize hX' : (fun v => (pot n (e :: l) s t v : Int)) = x' at *
  generalize hY : (fun v => (pot n l e.1 e.2 v : Int)) = y at *
  have ex : ∀ v, (pot n l s t v : Int) = x v := fun v => by rw [← hX]
  have ex' : ∀ v, (pot n (e :: l) s t v : Int) = x' v := fun v => by rw [← hX']
  have ey : ∀ v, (pot n l e.1 e.2 v : Int) = y v := fun v => by rw [← hY]
  simp only [ex, ex', ey] at hx hx' hy x1 x2 x1' x2' y1 y2
  have key : ∀ i, i < n → sumN (fun j => lap l i j * ((trees n l : Int) * x' j + (-(trees n (e :: l) : Int)) * x j + (x' e.1 - x' e.2) * y j)) n = 0 := fun i hi => by
    have h1 := hx' i hi
    rw [lap_more e l x' i hw.1 hw.2.1] at h1
    rw [lap_add3, hx i hi, hy i hi]
    have h2 : ends e i = unit e.1 i - unit e.2 i := rfl
    rw [← h2]
    have h3 : sumN (fun j => lap l i j * x' j) n = trees n (e :: l) * (unit s i - unit t i) - ends e i * (x' e.1 - x' e.2) := by omega
    rw [h3]
    grind
  have c1 := lap_const (z := fun j => (trees n l : Int) * x' j + (-(trees n (e :: l) : Int)) * x j + (x' e.1 - x' e.2) * y j) hl' lt h0 key ls
  have c2 := lap_const (z := fun j => (trees n l : Int) * x' j + (-(trees n (e :: l) : Int)) * x j + (x' e.1 - x' e.2) * y j) hl' hw.2.1 h0 key hw.1
  have rec0 := lap_swap x y hl'
  rw [sum_congr (g := fun i => x i * ((trees n l : Int) * (unit e.1 i - unit e.2 i))) fun i hi => by rw [hy i hi], sum_congr (f := fun i => y i * _) (g := fun i => y i * ((trees n l : Int) * (unit s i - unit t i))) fun i hi => by rw [hx i hi], sum_ends hw.1 hw.2.1, sum_ends ls lt] at rec0
  have hT : (0 : Int) < trees n l := by omega
  have rec1 := Int.eq_of_mul_eq_mul_left (by omega) rec0
  simp only [x1, x2, x1', x2'] at c1
  simp only [y1, y2] at c2
  generalize hu : x e.1 - x e.2 = u at *
  generalize hu' : x' e.1 - x' e.2 = u' at *
  have d1 : (trees n l : Int) * volt n (e :: l) s t = trees n (e :: l) * volt n l s t - u' * u := by rw [rec1]; grind
  have d2 : u' * ((trees n l : Int) + volt n l e.1 e.2) = trees n (e :: l) * u := by rw [← hu, ← hu']; rw [← hu'] at c2; grind
  have d3 : 0 ≤ u' * u := by
    have hR : (0 : Int) < (trees n l : Int) + volt n l e.1 e.2 := by omega
    have hs : 0 ≤ u * u := by
      rcases Int.le_total 0 u with g | g
      · exact Int.mul_nonneg g g
      · exact Int.mul_nonneg_of_nonpos_of_nonpos g g
    have hp : 0 ≤ ((trees n l : Int) + volt n l e.1 e.2) * (u' * u) := by
      have : ((trees n l : Int) + volt n l e.1 e.2) * (u' * u) = trees n (e :: l) * (u * u) := by rw [← Int.mul_assoc, Int.mul_comm _ u', d2, Int.mul_assoc]
      rw [this]
      exact Int.mul_nonneg (by omega) hs
    exact Int.nonneg_of_mul_nonneg_right hp hR
  have d4 : (trees n l : Int) * volt n (e :: l) s t ≤ trees n (e :: l) * volt n l s t := by omega
  have : trees n l * volt n (e :: l) s t ≤ trees n (e :: l) * volt n l s t := by
    rw [← Int.natCast_mul, ← Int.natCast_mul] at d4
    omega
  rw [Nat.mul_comm, Nat.mul_comm (volt n l s t)]
  exact this

/-- A resistance is at most the sum over a vertex between. -/
theorem triangle {n s t u : Nat} {l : List Wr} (hl : Wf n l) (ls : s < n) (lt : t < n) (lu : u < n) (hst : s ≠ t) (hsu : s ≠ u) (hut : u ≠ t) (h0 : trees n l ≠ 0) :
    volt n l s t ≤ volt n l s u + volt n l u t := by
  have key : ∀ i, i < n → sumN (fun j => lap l i j * ((1 : Int) * (pot n l s t j : Int) + (-1) * (pot n l s u j : Int) + (-1) * (pot n l u t j : Int))) n = 0 := fun i hi => by
    rw [lap_add3 l (fun j => (pot n l s t j : Int)) (fun j => (pot n l s u j : Int)) (fun j => (pot n l u t j : Int)), pot_lap hl ls lt hst hi, pot_lap hl ls lu hsu hi, pot_lap hl lu lt hut hi]
    grind
  have c1 := lap_const (z := fun j => (1 : Int) * (pot n l s t j : Int) + (-1) * (pot n l s u j : Int) + (-1) * (pot n l u t j : Int)) hl lt h0 key ls
  simp only [pot_s hst, pot_s hsu, pot_t] at c1
  have h1 := pot_le (n := n) (l := l) (s := u) (t := t) (v := s)
  omega

theorem volt_perm {n : Nat} {l l' : List Wr} {s t : Nat} (p : l.Perm l') : volt n l s t = volt n l' s t := cnt_perm p (PI_RF n _)
theorem trees_perm {n : Nat} {l l' : List Wr} (p : l.Perm l') : trees n l = trees n l' := cnt_perm p (PI_RF n _)

end Go.Dt
