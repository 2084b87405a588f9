/- Contracts: Next, Heap of the specification. -/
import Derived.Test.YtaephdjmpmbfpaaC3
set_option linter.all false
namespace Go.Proofs.Ytaephdjmpmbfpaa
open Go.Lf Go.RowKit Go.Hp

set_option maxRecDepth 100000 in
theorem next_calls (A B : Nat) (C : Int) (v : Value) (g : Nat) (bs : Nat → Nat) (h : List (List Int)) (w : World) (hA : A ≤ 1000) (hB0 : 0 < B) (hB : B ≤ 1000) (hC : C ≤ 1000000)
    (ho : OwnRows w v g bs h) (hs : Sized A B h) (hpos : ∀ i j, i < A → j < B → 0 ≤ hat h i j) :
    Calls Try.prog 23 #[boxV A B C, v] w fun e w' => e = .returned (.bool (nextM A B C h).isSome) ∧ OwnRows w' v g bs ((nextM A B C h).getD h) ∧ Chg (fun k => ∃ i, i < h.length ∧ k = bs i) w w' := by
  refine lift23 ?_
  unfold S23
  refine r_box fun b w1 hbw hsz hb hk => ?_
  obtain ⟨c0, c1, c2⟩ := box3 hb
  obtain ⟨hl, hrow⟩ := hs
  have hAB : A * B ≤ 1000000 := Nat.mul_le_mul hA hB
  have hbn : ∀ i, i < h.length → b ≠ bs i := fun i hi e => by
    obtain ⟨cur, h1, _⟩ := ho.rows i hi
    have := block_lt h1; omega
  simp (disch := omega) only [r_ln, r_pick, r_pickT, r_pickF, r_condT, r_condF, r_gdTT, r_gdFF, r_gdTF, r_gdFT, r_gqTT, r_gqFF, r_gqTF, r_gqFT, r_not, r_lss, r_leq, r_gtr, r_geq, r_eql, r_neq, r_add, r_sub, r_min2, r_max2, r_min3, r_max3, r_fa, r_iaS, r_iaA, r_ex2a, r_ex2b, r_ex3a, r_ex3b, r_ex3c, r_nc, r_keepE, Nat.zero_add, Nat.add_zero, Nat.mul_one, Int.toNat_natCast, toNat_sub1, toNat_add1, decide_true, decide_false, Bool.not_true, Bool.not_false, if_true, if_false, Bool.false_eq_true, reduceCtorEq, r_ld c0, r_ld c1, r_mulN]
  refine ⟨fun t5 wr => ∃ p : Nat, p ≤ A * B ∧ t5 = .int .i64 ((p : Int) - 1) ∧ Kp w1 wr ∧ findP B C h (A * B) = findP B C h p, fun t5 _ => (intOf t5 + 1).toNat, ⟨A * B, by omega, rfl, Kp.refl _, rfl⟩, ?_⟩
  rintro _ _ wr ⟨p, hp, rfl, hk1, hfind⟩
  have hkr := Kp.trans hk hk1
  have d0 := cell_later hk1 c0
  have d1 := cell_later hk1 c1
  cases p with
  | zero =>
    have e0 : ¬ (0 : Int) ≤ ((0 : Nat) : Int) - 1 := by omega
    simp (disch := omega) only [r_ln, r_pick, r_pickT, r_pickF, r_condT, r_condF, r_gdTT, r_gdFF, r_gdTF, r_gdFT, r_gqTT, r_gqFF, r_gqTF, r_gqFT, r_not, r_lss, r_leq, r_gtr, r_geq, r_eql, r_neq, r_add, r_sub, r_min2, r_max2, r_min3, r_max3, r_fa, r_iaS, r_iaA, r_ex2a, r_ex2b, r_ex3a, r_ex3b, r_ex3c, r_nc, r_keepE, Nat.zero_add, Nat.add_zero, Nat.mul_one, Int.toNat_natCast, toNat_sub1, toNat_add1, decide_true, decide_false, Bool.not_true, Bool.not_false, if_true, if_false, Bool.false_eq_true, reduceCtorEq, e0]
    have hn : nextM A B C h = none := by simp [nextM, hfind, findP]
    rw [hn]
    exact ⟨rfl, ho.kp hkr, Chg.of_kp hkr⟩
  | succ q =>
    have e1 : (((q + 1 : Nat) : Int) - 1) = q := by omega
    have e0 : (0 : Int) ≤ q := by omega
    rw [e1]
    simp (disch := omega) only [r_ln, r_pick, r_pickT, r_pickF, r_condT, r_condF, r_gdTT, r_gdFF, r_gdTF, r_gdFT, r_gqTT, r_gqFF, r_gqTF, r_gqFT, r_not, r_lss, r_leq, r_gtr, r_geq, r_eql, r_neq, r_add, r_sub, r_min2, r_max2, r_min3, r_max3, r_fa, r_iaS, r_iaA, r_ex2a, r_ex2b, r_ex3a, r_ex3b, r_ex3c, r_nc, r_keepE, Nat.zero_add, Nat.add_zero, Nat.mul_one, Int.toNat_natCast, toNat_sub1, toNat_add1, decide_true, decide_false, Bool.not_true, Bool.not_false, if_true, if_false, Bool.false_eq_true, reduceCtorEq, e0]
    have hqA : q / B < A := (Nat.div_lt_iff_lt_mul hB0).2 (by omega)
    have hqB : q % B < B := Nat.mod_lt _ hB0
    refine r_drew fun w2 hk2 _ => ?_
    have f1 := cell_later hk2 d1
    have hb2 := block_below hb (Kp.trans hk1 hk2)
    simp (disch := omega) only [r_ln, r_pick, r_pickT, r_pickF, r_condT, r_condF, r_gdTT, r_gdFF, r_gdTF, r_gdFT, r_gqTT, r_gqFF, r_gqTF, r_gqFT, r_not, r_lss, r_leq, r_gtr, r_geq, r_eql, r_neq, r_add, r_sub, r_min2, r_max2, r_min3, r_max3, r_fa, r_iaS, r_iaA, r_ex2a, r_ex2b, r_ex3a, r_ex3b, r_ex3c, r_nc, r_keepE, Nat.zero_add, Nat.add_zero, Nat.mul_one, Int.toNat_natCast, toNat_sub1, toNat_add1, decide_true, decide_false, Bool.not_true, Bool.not_false, if_true, if_false, Bool.false_eq_true, reduceCtorEq, r_ld f1, r_quoN, r_remN]
    have hfs : findP B C h (q + 1) = if hat h (q / B) (q % B) < mostM C h (q / B) (q % B) then some q else findP B C h q := rfl
    have hnx : ∀ p, findP B C h (A * B) = some p → nextM A B C h = some (clr B (put2 h (p / B) (p % B) (hat h (p / B) (p % B) + 1)) (p + 1) (A * B - (p + 1))) := fun p e => by simp only [nextM, e]
    have hnq := hnx q
    rw [hfind, hfs] at hnq
    rw [hfs] at hfind
    clear hnx hfs
    generalize q / B = i at *
    generalize q % B = j at *
    refine r_drew fun w3 hk3 _ => ?_
    have hk13 := Kp.trans hk1 (Kp.trans hk2 hk3)
    have hkw3 := Kp.trans hk hk13
    have hb3 := block_below hb2 hk3
    have ho3 := ho.kp hkw3
    obtain ⟨cap, c, rfl, hgc, hslot⟩ := ho3.slot (i := i) (by omega)
    have hlen := hrow i hqA
    obtain ⟨hx, hfz⟩ := hslot j (by omega)
    simp (disch := omega) only [r_ln, r_pick, r_pickT, r_pickF, r_condT, r_condF, r_gdTT, r_gdFF, r_gdTF, r_gdFT, r_gqTT, r_gqFF, r_gqTF, r_gqFT, r_not, r_lss, r_leq, r_gtr, r_geq, r_eql, r_neq, r_add, r_sub, r_min2, r_max2, r_min3, r_max3, r_fa, r_iaS, r_iaA, r_ex2a, r_ex2b, r_ex3a, r_ex3b, r_ex3c, r_nc, r_keepE, Nat.zero_add, Nat.add_zero, Nat.mul_one, Int.toNat_natCast, toNat_sub1, toNat_add1, decide_true, decide_false, Bool.not_true, Bool.not_false, if_true, if_false, Bool.false_eq_true, reduceCtorEq, r_ld hgc, r_ld hx, r_ldRow (n := 3) hb3 rfl]
    refine r_use fok48 (most_calls A B C _ h i j w3 ho3.rd (by omega) (by omega) fun h0 => by rw [hrow _ (by omega)]; exact hqB) rfl ?_
    rintro e w4 ⟨rfl, hk4⟩
    refine ⟨_, rfl, hk4, ?_⟩
    have hk14 := Kp.trans hk13 hk4
    have hkw4 := Kp.trans hk hk14
    have hgc4 := cell_later hk4 hgc
    have hx4 := cell_later hk4 hx
    have ho4 := ho.kp hkw4
    have hxe : hat h i j = (h.getD i []).getD j 0 := rfl
    by_cases hm : (h.getD i []).getD j 0 < mostM C h i j
    case neg =>
      simp (disch := omega) only [r_ln, r_pick, r_pickT, r_pickF, r_condT, r_condF, r_gdTT, r_gdFF, r_gdTF, r_gdFT, r_gqTT, r_gqFF, r_gqTF, r_gqFT, r_not, r_lss, r_leq, r_gtr, r_geq, r_eql, r_neq, r_add, r_sub, r_min2, r_max2, r_min3, r_max3, r_fa, r_iaS, r_iaA, r_ex2a, r_ex2b, r_ex3a, r_ex3b, r_ex3c, r_nc, r_keepE, Nat.zero_add, Nat.add_zero, Nat.mul_one, Int.toNat_natCast, toNat_sub1, toNat_add1, decide_true, decide_false, Bool.not_true, Bool.not_false, if_true, if_false, Bool.false_eq_true, reduceCtorEq, hm]
      exact ⟨⟨q, by omega, by go_num, hk14, by rw [hfind, if_neg (by rw [hxe]; exact hm)]⟩, by simp only [intOf]; omega⟩
    have hn := hnq (if_pos (show hat h i j < mostM C h i j by rw [hxe]; exact hm))
    rw [hn]
    have h0 := hpos i j hqA hqB
    have hmC : mostM C h i j ≤ C := by unfold mostM; dsimp only; split <;> split <;> omega
    have hfz4 : w4.frozen? ⟨bs i, j, none⟩ = false := by
      obtain ⟨rc, hr1, _⟩ := ho4.rows i (by omega)
      exact frozen_row hr1
    simp (disch := omega) only [r_ln, r_pick, r_pickT, r_pickF, r_condT, r_condF, r_gdTT, r_gdFF, r_gdTF, r_gdFT, r_gqTT, r_gqFF, r_gqTF, r_gqFT, r_not, r_lss, r_leq, r_gtr, r_geq, r_eql, r_neq, r_add, r_sub, r_min2, r_max2, r_min3, r_max3, r_fa, r_iaS, r_iaA, r_ex2a, r_ex2b, r_ex3a, r_ex3b, r_ex3c, r_nc, r_keepE, Nat.zero_add, Nat.add_zero, Nat.mul_one, Int.toNat_natCast, toNat_sub1, toNat_add1, decide_true, decide_false, Bool.not_true, Bool.not_false, if_true, if_false, Bool.false_eq_true, reduceCtorEq, hm, r_ld hgc4, r_ld hx4]
    rw [st3 hx4 hfz4, ← hxe]
    have ho5 := ho4.set (i := i) (j := j) (by omega) (by omega) (hat h i j + 1)
    have hch5 : Chg (fun k => ∃ i, i < h.length ∧ k = bs i) w (w4.setCell ⟨bs i, j, none⟩ (.int .i64 (hat h i j + 1))) :=
      (Chg.of_kp hkw4).trans (Chg.setCell _ _ ⟨i, by omega, rfl⟩)
    have hb5 : (w4.setCell ⟨bs i, j, none⟩ (.int .i64 (hat h i j + 1))).heap[b]? = some (.cells (boxV A B C).cells 25 (0, 0)) :=
      (Chg.setCell (S := fun k => ∃ i, i < h.length ∧ k = bs i) w4 _ ⟨i, by omega, rfl⟩).at (block_below hb3 hk4) (fun ⟨i, hi, e⟩ => hbn i hi e)
    have hs5 : Sized A B (put2 h i j (hat h i j + 1)) := put2_sized ⟨hl, hrow⟩ hqA _
    generalize put2 h i j (hat h i j + 1) = h5 at *
    generalize w4.setCell ⟨bs i, j, none⟩ (.int .i64 (hat h i j + 1)) = w5 at *
    refine ⟨fun t8 wr => ∃ m : Nat, q + 1 + m ≤ A * B ∧ t8 = .int .i64 ((q + 1 + m : Nat) : Int) ∧ OwnRows wr (.slice (some ⟨g, 0, none⟩) h.length cap) g bs (clr B h5 (q + 1) m) ∧ Chg (fun k => ∃ i, i < h.length ∧ k = bs i) w wr ∧
        wr.heap[b]? = some (.cells (boxV A B C).cells 25 (0, 0)), fun t8 _ => A * B - (intOf t8).toNat, ⟨0, by omega, by go_num, ho5, hch5, hb5⟩, ?_⟩
    rintro _ _ w6 ⟨m, hm6, rfl, ho6, hch6, hb6⟩
    obtain ⟨g0, g1, g2⟩ := box3 hb6
    by_cases hlt : q + 1 + m < A * B
    case neg =>
      have hlt' : ¬ ((q + 1 + m : Nat) : Int) < ((A * B : Nat) : Int) := by omega
      simp (disch := omega) only [r_ln, r_pick, r_pickT, r_pickF, r_condT, r_condF, r_gdTT, r_gdFF, r_gdTF, r_gdFT, r_gqTT, r_gqFF, r_gqTF, r_gqFT, r_not, r_lss, r_leq, r_gtr, r_geq, r_eql, r_neq, r_add, r_sub, r_min2, r_max2, r_min3, r_max3, r_fa, r_iaS, r_iaA, r_ex2a, r_ex2b, r_ex3a, r_ex3b, r_ex3c, r_nc, r_keepE, Nat.zero_add, Nat.add_zero, Nat.mul_one, Int.toNat_natCast, toNat_sub1, toNat_add1, decide_true, decide_false, Bool.not_true, Bool.not_false, if_true, if_false, Bool.false_eq_true, reduceCtorEq, r_ld g0, r_ld g1, r_mulN, hlt']
      have em : A * B - (q + 1) = m := by omega
      rw [em]
      exact ⟨rfl, ho6, hch6⟩
    have hlt' : ((q + 1 + m : Nat) : Int) < ((A * B : Nat) : Int) := by omega
    simp (disch := omega) only [r_ln, r_pick, r_pickT, r_pickF, r_condT, r_condF, r_gdTT, r_gdFF, r_gdTF, r_gdFT, r_gqTT, r_gqFF, r_gqTF, r_gqFT, r_not, r_lss, r_leq, r_gtr, r_geq, r_eql, r_neq, r_add, r_sub, r_min2, r_max2, r_min3, r_max3, r_fa, r_iaS, r_iaA, r_ex2a, r_ex2b, r_ex3a, r_ex3b, r_ex3c, r_nc, r_keepE, Nat.zero_add, Nat.add_zero, Nat.mul_one, Int.toNat_natCast, toNat_sub1, toNat_add1, decide_true, decide_false, Bool.not_true, Bool.not_false, if_true, if_false, Bool.false_eq_true, reduceCtorEq, r_ld g0, r_ld g1, r_mulN, hlt']
    refine r_drew fun w7 hk7 _ => ?_
    have hb7 := block_below hb6 hk7
    obtain ⟨k0, k1, k2⟩ := box3 hb7
    have ho7 := ho6.kp hk7
    have hs6 := clr_sized hs5 hB0 (q + 1) m (by omega)
    have hqA' : (q + 1 + m) / B < A := (Nat.div_lt_iff_lt_mul hB0).2 (by omega)
    have hqB' : (q + 1 + m) % B < B := Nat.mod_lt _ hB0
    obtain ⟨cap', c', he, hgc7, hslot7⟩ := ho7.slot (i := (q + 1 + m) / B) (by rw [hs6.1]; exact hqA')
    have hlen7 := hs6.2 _ hqA'
    obtain ⟨hx7, hfz7⟩ := hslot7 ((q + 1 + m) % B) (by omega)
    have hl6 : (clr B h5 (q + 1) m).length = h.length := by rw [hs6.1, hl]
    have hclr : clr B h5 (q + 1) (m + 1) = put2 (clr B h5 (q + 1) m) ((q + 1 + m) / B) ((q + 1 + m) % B) 0 := rfl
    simp (disch := omega) only [r_ln, r_pick, r_pickT, r_pickF, r_condT, r_condF, r_gdTT, r_gdFF, r_gdTF, r_gdFT, r_gqTT, r_gqFF, r_gqTF, r_gqFT, r_not, r_lss, r_leq, r_gtr, r_geq, r_eql, r_neq, r_add, r_sub, r_min2, r_max2, r_min3, r_max3, r_fa, r_iaS, r_iaA, r_ex2a, r_ex2b, r_ex3a, r_ex3b, r_ex3c, r_nc, r_keepE, Nat.zero_add, Nat.add_zero, Nat.mul_one, Int.toNat_natCast, toNat_sub1, toNat_add1, decide_true, decide_false, Bool.not_true, Bool.not_false, if_true, if_false, Bool.false_eq_true, reduceCtorEq, r_ld k1, r_quoN, r_remN]
    generalize (q + 1 + m) / B = i2 at *
    generalize (q + 1 + m) % B = j2 at *
    simp (disch := omega) only [r_ln, r_pick, r_pickT, r_pickF, r_condT, r_condF, r_gdTT, r_gdFF, r_gdTF, r_gdFT, r_gqTT, r_gqFF, r_gqTF, r_gqFT, r_not, r_lss, r_leq, r_gtr, r_geq, r_eql, r_neq, r_add, r_sub, r_min2, r_max2, r_min3, r_max3, r_fa, r_iaS, r_iaA, r_ex2a, r_ex2b, r_ex3a, r_ex3b, r_ex3c, r_nc, r_keepE, Nat.zero_add, Nat.add_zero, Nat.mul_one, Int.toNat_natCast, toNat_sub1, toNat_add1, decide_true, decide_false, Bool.not_true, Bool.not_false, if_true, if_false, Bool.false_eq_true, reduceCtorEq, r_ld hgc7]
    rw [st3 hx7 hfz7]
    have ho8 := ho7.set (i := i2) (j := j2) (by omega) (by omega) 0
    have hc8 : Chg (fun k => ∃ i, i < h.length ∧ k = bs i) w7 (w7.setCell ⟨bs (i2), j2, none⟩ (.int .i64 0)) := Chg.setCell _ _ ⟨_, by omega, rfl⟩
    exact ⟨⟨m + 1, by omega, by go_num, by rw [hclr]; exact ho8, (hch6.trans (Chg.of_kp hk7)).trans hc8, hc8.at hb7 (fun ⟨i, hi, e⟩ => hbn i hi e)⟩, by simp only [intOf]; omega⟩

end Go.Proofs.Ytaephdjmpmbfpaa
