/- Texts of my own, merged by program: C4 C5 Det. -/
import Derived.Test.YtaephdjmpmbfpaaM05
import Derived.Test.YtaephdjmpmbfpaaM02
set_option linter.all false
/- Contracts: Next, Heap of the specification. -/
namespace Go.Proofs.Ytaephdjmpmbfpaa
open Go.Lf Go.RowKit Go.Hp

set_option maxRecDepth 100000 in
theorem next_calls (A B : Nat) (C : Int) (v : Value) (g : Nat) (bs : Nat → Nat) (h : List (List Int)) (w : World) (hA : A ≤ 1000) (hB0 : 0 < B) (hB : B ≤ 1000) (hC : C ≤ 1000000)
    (ho : OwnRows w v g bs h) (hs : Sized A B h) (hpos : ∀ i j, i < A → j < B → 0 ≤ hat h i j) :
    Calls Try.prog 23 #[boxV A B C, v] w fun e w' => e = .returned (.bool (nextM A B C h).isSome) ∧ OwnRows w' v g bs ((nextM A B C h).getD h) ∧ Chg (fun k => ∃ i, i < h.length ∧ k = bs i) w w' := by
  refine lift23 ?_
  unfold S23
  refine r_box fun b w1 hbw hsz hb hk => ?_
  obtain ⟨c0, c1, c2⟩ := box3 hb
  obtain ⟨hl, hrow⟩ := hs
  have hAB : A * B ≤ 1000000 := Nat.mul_le_mul hA hB
  have hbn : ∀ i, i < h.length → b ≠ bs i := fun i hi e => by
    obtain ⟨cur, h1, _⟩ := ho.rows i hi
    have := block_lt h1; omega
  simp (disch := omega) only [r_ln, r_pick, r_pickT, r_pickF, r_condT, r_condF, r_gdTT, r_gdFF, r_gdTF, r_gdFT, r_gqTT, r_gqFF, r_gqTF, r_gqFT, r_not, r_lss, r_leq, r_gtr, r_geq, r_eql, r_neq, r_add, r_sub, r_min2, r_max2, r_min3, r_max3, r_fa, r_iaS, r_iaA, r_ex2a, r_ex2b, r_ex3a, r_ex3b, r_ex3c, r_nc, r_keepE, Nat.zero_add, Nat.add_zero, Nat.mul_one, Int.toNat_natCast, toNat_sub1, toNat_add1, decide_true, decide_false, Bool.not_true, Bool.not_false, if_true, if_false, Bool.false_eq_true, reduceCtorEq, r_ld c0, r_ld c1, r_mulN]
  refine ⟨fun t5 wr => ∃ p : Nat, p ≤ A * B ∧ t5 = .int .i64 ((p : Int) - 1) ∧ Kp w1 wr ∧ findP B C h (A * B) = findP B C h p, fun t5 _ => (intOf t5 + 1).toNat, ⟨A * B, by omega, rfl, Kp.refl _, rfl⟩, ?_⟩
  rintro _ _ wr ⟨p, hp, rfl, hk1, hfind⟩
  have hkr := Kp.trans hk hk1
  have d0 := cell_later hk1 c0
  have d1 := cell_later hk1 c1
  cases p with
  | zero =>
    have e0 : ¬ (0 : Int) ≤ ((0 : Nat) : Int) - 1 := by omega
    simp (disch := omega) only [r_ln, r_pick, r_pickT, r_pickF, r_condT, r_condF, r_gdTT, r_gdFF, r_gdTF, r_gdFT, r_gqTT, r_gqFF, r_gqTF, r_gqFT, r_not, r_lss, r_leq, r_gtr, r_geq, r_eql, r_neq, r_add, r_sub, r_min2, r_max2, r_min3, r_max3, r_fa, r_iaS, r_iaA, r_ex2a, r_ex2b, r_ex3a, r_ex3b, r_ex3c, r_nc, r_keepE, Nat.zero_add, Nat.add_zero, Nat.mul_one, Int.toNat_natCast, toNat_sub1, toNat_add1, decide_true, decide_false, Bool.not_true, Bool.not_false, if_true, if_false, Bool.false_eq_true, reduceCtorEq, e0]
    have hn : nextM A B C h = none := by simp [nextM, hfind, findP]
    rw [hn]
    exact ⟨rfl, ho.kp hkr, Chg.of_kp hkr⟩
  | succ q =>
    have e1 : (((q + 1 : Nat) : Int) - 1) = q := by omega
    have e0 : (0 : Int) ≤ q := by omega
    rw [e1]
    simp (disch := omega) only [r_ln, r_pick, r_pickT, r_pickF, r_condT, r_condF, r_gdTT, r_gdFF, r_gdTF, r_gdFT, r_gqTT, r_gqFF, r_gqTF, r_gqFT, r_not, r_lss, r_leq, r_gtr, r_geq, r_eql, r_neq, r_add, r_sub, r_min2, r_max2, r_min3, r_max3, r_fa, r_iaS, r_iaA, r_ex2a, r_ex2b, r_ex3a, r_ex3b, r_ex3c, r_nc, r_keepE, Nat.zero_add, Nat.add_zero, Nat.mul_one, Int.toNat_natCast, toNat_sub1, toNat_add1, decide_true, decide_false, Bool.not_true, Bool.not_false, if_true, if_false, Bool.false_eq_true, reduceCtorEq, e0]
    have hqA : q / B < A := (Nat.div_lt_iff_lt_mul hB0).2 (by omega)
    have hqB : q % B < B := Nat.mod_lt _ hB0
    refine r_drew fun w2 hk2 _ => ?_
    have f1 := cell_later hk2 d1
    have hb2 := block_below hb (Kp.trans hk1 hk2)
    simp (disch := omega) only [r_ln, r_pick, r_pickT, r_pickF, r_condT, r_condF, r_gdTT, r_gdFF, r_gdTF, r_gdFT, r_gqTT, r_gqFF, r_gqTF, r_gqFT, r_not, r_lss, r_leq, r_gtr, r_geq, r_eql, r_neq, r_add, r_sub, r_min2, r_max2, r_min3, r_max3, r_fa, r_iaS, r_iaA, r_ex2a, r_ex2b, r_ex3a, r_ex3b, r_ex3c, r_nc, r_keepE, Nat.zero_add, Nat.add_zero, Nat.mul_one, Int.toNat_natCast, toNat_sub1, toNat_add1, decide_true, decide_false, Bool.not_true, Bool.not_false, if_true, if_false, Bool.false_eq_true, reduceCtorEq, r_ld f1, r_quoN, r_remN]
    have hfs : findP B C h (q + 1) = if hat h (q / B) (q % B) < mostM C h (q / B) (q % B) then some q else findP B C h q := rfl
    have hnx : ∀ p, findP B C h (A * B) = some p → nextM A B C h = some (clr B (put2 h (p / B) (p % B) (hat h (p / B) (p % B) + 1)) (p + 1) (A * B - (p + 1))) := fun p e => by simp only [nextM, e]
    have hnq := hnx q
    rw [hfind, hfs] at hnq
    rw [hfs] at hfind
    clear hnx hfs
    generalize q / B = i at *
    generalize q % B = j at *
    refine r_drew fun w3 hk3 _ => ?_
    have hk13 := Kp.trans hk1 (Kp.trans hk2 hk3)
    have hkw3 := Kp.trans hk hk13
    have hb3 := block_below hb2 hk3
    have ho3 := ho.kp hkw3
    obtain ⟨cap, c, rfl, hgc, hslot⟩ := ho3.slot (i := i) (by omega)
    have hlen := hrow i hqA
    obtain ⟨hx, hfz⟩ := hslot j (by omega)
    simp (disch := omega) only [r_ln, r_pick, r_pickT, r_pickF, r_condT, r_condF, r_gdTT, r_gdFF, r_gdTF, r_gdFT, r_gqTT, r_gqFF, r_gqTF, r_gqFT, r_not, r_lss, r_leq, r_gtr, r_geq, r_eql, r_neq, r_add, r_sub, r_min2, r_max2, r_min3, r_max3, r_fa, r_iaS, r_iaA, r_ex2a, r_ex2b, r_ex3a, r_ex3b, r_ex3c, r_nc, r_keepE, Nat.zero_add, Nat.add_zero, Nat.mul_one, Int.toNat_natCast, toNat_sub1, toNat_add1, decide_true, decide_false, Bool.not_true, Bool.not_false, if_true, if_false, Bool.false_eq_true, reduceCtorEq, r_ld hgc, r_ld hx, r_ldRow (n := 3) hb3 rfl]
    refine r_use fok48 (most_calls A B C _ h i j w3 ho3.rd (by omega) (by omega) fun h0 => by rw [hrow _ (by omega)]; exact hqB) rfl ?_
    rintro e w4 ⟨rfl, hk4⟩
    refine ⟨_, rfl, hk4, ?_⟩
    have hk14 := Kp.trans hk13 hk4
    have hkw4 := Kp.trans hk hk14
    have hgc4 := cell_later hk4 hgc
    have hx4 := cell_later hk4 hx
    have ho4 := ho.kp hkw4
    have hxe : hat h i j = (h.getD i []).getD j 0 := rfl
    by_cases hm : (h.getD i []).getD j 0 < mostM C h i j
    case neg =>
      simp (disch := omega) only [r_ln, r_pick, r_pickT, r_pickF, r_condT, r_condF, r_gdTT, r_gdFF, r_gdTF, r_gdFT, r_gqTT, r_gqFF, r_gqTF, r_gqFT, r_not, r_lss, r_leq, r_gtr, r_geq, r_eql, r_neq, r_add, r_sub, r_min2, r_max2, r_min3, r_max3, r_fa, r_iaS, r_iaA, r_ex2a, r_ex2b, r_ex3a, r_ex3b, r_ex3c, r_nc, r_keepE, Nat.zero_add, Nat.add_zero, Nat.mul_one, Int.toNat_natCast, toNat_sub1, toNat_add1, decide_true, decide_false, Bool.not_true, Bool.not_false, if_true, if_false, Bool.false_eq_true, reduceCtorEq, hm]
      exact ⟨⟨q, by omega, by go_num, hk14, by rw [hfind, if_neg (by rw [hxe]; exact hm)]⟩, by simp only [intOf]; omega⟩
    have hn := hnq (if_pos (show hat h i j < mostM C h i j by rw [hxe]; exact hm))
    rw [hn]
    have h0 := hpos i j hqA hqB
    have hmC : mostM C h i j ≤ C := by unfold mostM; dsimp only; split <;> split <;> omega
    have hfz4 : w4.frozen? ⟨bs i, j, none⟩ = false := by
      obtain ⟨rc, hr1, _⟩ := ho4.rows i (by omega)
      exact frozen_row hr1
    simp (disch := omega) only [r_ln, r_pick, r_pickT, r_pickF, r_condT, r_condF, r_gdTT, r_gdFF, r_gdTF, r_gdFT, r_gqTT, r_gqFF, r_gqTF, r_gqFT, r_not, r_lss, r_leq, r_gtr, r_geq, r_eql, r_neq, r_add, r_sub, r_min2, r_max2, r_min3, r_max3, r_fa, r_iaS, r_iaA, r_ex2a, r_ex2b, r_ex3a, r_ex3b, r_ex3c, r_nc, r_keepE, Nat.zero_add, Nat.add_zero, Nat.mul_one, Int.toNat_natCast, toNat_sub1, toNat_add1, decide_true, decide_false, Bool.not_true, Bool.not_false, if_true, if_false, Bool.false_eq_true, reduceCtorEq, hm, r_ld hgc4, r_ld hx4]
    rw [st3 hx4 hfz4, ← hxe]
    have ho5 := ho4.set (i := i) (j := j) (by omega) (by omega) (hat h i j + 1)
    have hch5 : Chg (fun k => ∃ i, i < h.length ∧ k = bs i) w (w4.setCell ⟨bs i, j, none⟩ (.int .i64 (hat h i j + 1))) :=
      (Chg.of_kp hkw4).trans (Chg.setCell _ _ ⟨i, by omega, rfl⟩)
    have hb5 : (w4.setCell ⟨bs i, j, none⟩ (.int .i64 (hat h i j + 1))).heap[b]? = some (.cells (boxV A B C).cells 25 (0, 0)) :=
      (Chg.setCell (S := fun k => ∃ i, i < h.length ∧ k = bs i) w4 _ ⟨i, by omega, rfl⟩).at (block_below hb3 hk4) (fun ⟨i, hi, e⟩ => hbn i hi e)
    have hs5 : Sized A B (put2 h i j (hat h i j + 1)) := put2_sized ⟨hl, hrow⟩ hqA _
    generalize put2 h i j (hat h i j + 1) = h5 at *
    generalize w4.setCell ⟨bs i, j, none⟩ (.int .i64 (hat h i j + 1)) = w5 at *
    refine ⟨fun t8 wr => ∃ m : Nat, q + 1 + m ≤ A * B ∧ t8 = .int .i64 ((q + 1 + m : Nat) : Int) ∧ OwnRows wr (.slice (some ⟨g, 0, none⟩) h.length cap) g bs (clr B h5 (q + 1) m) ∧ Chg (fun k => ∃ i, i < h.length ∧ k = bs i) w wr ∧
        wr.heap[b]? = some (.cells (boxV A B C).cells 25 (0, 0)), fun t8 _ => A * B - (intOf t8).toNat, ⟨0, by omega, by go_num, ho5, hch5, hb5⟩, ?_⟩
    rintro _ _ w6 ⟨m, hm6, rfl, ho6, hch6, hb6⟩
    obtain ⟨g0, g1, g2⟩ := box3 hb6
    by_cases hlt : q + 1 + m < A * B
    case neg =>
      have hlt' : ¬ ((q + 1 + m : Nat) : Int) < ((A * B : Nat) : Int) := by omega
      simp (disch := omega) only [r_ln, r_pick, r_pickT, r_pickF, r_condT, r_condF, r_gdTT, r_gdFF, r_gdTF, r_gdFT, r_gqTT, r_gqFF, r_gqTF, r_gqFT, r_not, r_lss, r_leq, r_gtr, r_geq, r_eql, r_neq, r_add, r_sub, r_min2, r_max2, r_min3, r_max3, r_fa, r_iaS, r_iaA, r_ex2a, r_ex2b, r_ex3a, r_ex3b, r_ex3c, r_nc, r_keepE, Nat.zero_add, Nat.add_zero, Nat.mul_one, Int.toNat_natCast, toNat_sub1, toNat_add1, decide_true, decide_false, Bool.not_true, Bool.not_false, if_true, if_false, Bool.false_eq_true, reduceCtorEq, r_ld g0, r_ld g1, r_mulN, hlt']
      have em : A * B - (q + 1) = m := by omega
      rw [em]
      exact ⟨rfl, ho6, hch6⟩
    have hlt' : ((q + 1 + m : Nat) : Int) < ((A * B : Nat) : Int) := by omega
    simp (disch := omega) only [r_ln, r_pick, r_pickT, r_pickF, r_condT, r_condF, r_gdTT, r_gdFF, r_gdTF, r_gdFT, r_gqTT, r_gqFF, r_gqTF, r_gqFT, r_not, r_lss, r_leq, r_gtr, r_geq, r_eql, r_neq, r_add, r_sub, r_min2, r_max2, r_min3, r_max3, r_fa, r_iaS, r_iaA, r_ex2a, r_ex2b, r_ex3a, r_ex3b, r_ex3c, r_nc, r_keepE, Nat.zero_add, Nat.add_zero, Nat.mul_one, Int.toNat_natCast, toNat_sub1, toNat_add1, decide_true, decide_false, Bool.not_true, Bool.not_false, if_true, if_false, Bool.false_eq_true, reduceCtorEq, r_ld g0, r_ld g1, r_mulN, hlt']
    refine r_drew fun w7 hk7 _ => ?_
    have hb7 := block_below hb6 hk7
    obtain ⟨k0, k1, k2⟩ := box3 hb7
    have ho7 := ho6.kp hk7
    have hs6 := clr_sized hs5 hB0 (q + 1) m (by omega)
    have hqA' : (q + 1 + m) / B < A := (Nat.div_lt_iff_lt_mul hB0).2 (by omega)
    have hqB' : (q + 1 + m) % B < B := Nat.mod_lt _ hB0
    obtain ⟨cap', c', he, hgc7, hslot7⟩ := ho7.slot (i := (q + 1 + m) / B) (by rw [hs6.1]; exact hqA')
    have hlen7 := hs6.2 _ hqA'
    obtain ⟨hx7, hfz7⟩ := hslot7 ((q + 1 + m) % B) (by omega)
    have hl6 : (clr B h5 (q + 1) m).length = h.length := by rw [hs6.1, hl]
    have hclr : clr B h5 (q + 1) (m + 1) = put2 (clr B h5 (q + 1) m) ((q + 1 + m) / B) ((q + 1 + m) % B) 0 := rfl
    simp (disch := omega) only [r_ln, r_pick, r_pickT, r_pickF, r_condT, r_condF, r_gdTT, r_gdFF, r_gdTF, r_gdFT, r_gqTT, r_gqFF, r_gqTF, r_gqFT, r_not, r_lss, r_leq, r_gtr, r_geq, r_eql, r_neq, r_add, r_sub, r_min2, r_max2, r_min3, r_max3, r_fa, r_iaS, r_iaA, r_ex2a, r_ex2b, r_ex3a, r_ex3b, r_ex3c, r_nc, r_keepE, Nat.zero_add, Nat.add_zero, Nat.mul_one, Int.toNat_natCast, toNat_sub1, toNat_add1, decide_true, decide_false, Bool.not_true, Bool.not_false, if_true, if_false, Bool.false_eq_true, reduceCtorEq, r_ld k1, r_quoN, r_remN]
    generalize (q + 1 + m) / B = i2 at *
    generalize (q + 1 + m) % B = j2 at *
    simp (disch := omega) only [r_ln, r_pick, r_pickT, r_pickF, r_condT, r_condF, r_gdTT, r_gdFF, r_gdTF, r_gdFT, r_gqTT, r_gqFF, r_gqTF, r_gqFT, r_not, r_lss, r_leq, r_gtr, r_geq, r_eql, r_neq, r_add, r_sub, r_min2, r_max2, r_min3, r_max3, r_fa, r_iaS, r_iaA, r_ex2a, r_ex2b, r_ex3a, r_ex3b, r_ex3c, r_nc, r_keepE, Nat.zero_add, Nat.add_zero, Nat.mul_one, Int.toNat_natCast, toNat_sub1, toNat_add1, decide_true, decide_false, Bool.not_true, Bool.not_false, if_true, if_false, Bool.false_eq_true, reduceCtorEq, r_ld hgc7]
    rw [st3 hx7 hfz7]
    have ho8 := ho7.set (i := i2) (j := j2) (by omega) (by omega) 0
    have hc8 : Chg (fun k => ∃ i, i < h.length ∧ k = bs i) w7 (w7.setCell ⟨bs (i2), j2, none⟩ (.int .i64 0)) := Chg.setCell _ _ ⟨_, by omega, rfl⟩
    exact ⟨⟨m + 1, by omega, by go_num, by rw [hclr]; exact ho8, (hch6.trans (Chg.of_kp hk7)).trans hc8, hc8.at hb7 (fun ⟨i, hi, e⟩ => hbn i hi e)⟩, by simp only [intOf]; omega⟩

end Go.Proofs.Ytaephdjmpmbfpaa

/- Contract: Heap of the specification. -/
namespace Go.Proofs.Ytaephdjmpmbfpaa
open Go.Lf Go.RowKit Go.Hp

abbrev nilS : Value := .slice none 0 0

/-- What Heap of the specification hands back. -/
def RefHeap (A B C rank : Int) (w w' : World) (v : Value) (err : Int) : Prop :=
  if validB A B C = false then v = nilS ∧ err = 2 else
  if rank < 0 then v = nilS ∧ err = 4 else
  match iterN A.toNat B.toNat C rank.toNat with
  | none => v = nilS ∧ err = 4
  | some h => NewRows w w' v h ∧ err = 0

set_option maxRecDepth 100000 in
theorem refheap_calls (A B C rank : Int) (w : World) (hr : rank ≤ 9223372036854775807) :
    Calls Try.prog 34 #[boxV A B C, .int .i64 rank] w fun e w' => ∃ v err, e = .returned (.tuple #[v, .int .i64 err]) ∧ Kp w w' ∧ RefHeap A B C rank w w' v err := by
  refine lift34 ?_
  unfold S34
  refine r_box fun b w1 hbw hsz hb hk => ?_
  simp (disch := omega) only [r_ln, r_pick, r_pickT, r_pickF, r_condT, r_condF, r_gdTT, r_gdFF, r_gdTF, r_gdFT, r_gqTT, r_gqFF, r_gqTF, r_gqFT, r_not, r_lss, r_leq, r_gtr, r_geq, r_eql, r_neq, r_add, r_sub, r_min2, r_max2, r_min3, r_max3, r_fa, r_iaS, r_iaA, r_ex2a, r_ex2b, r_ex3a, r_ex3b, r_ex3c, r_nc, r_keepE, Nat.zero_add, Nat.add_zero, Nat.mul_one, Int.toNat_natCast, toNat_sub1, toNat_add1, decide_true, decide_false, Bool.not_true, Bool.not_false, if_true, if_false, Bool.false_eq_true, reduceCtorEq, r_ldRow (n := 3) hb rfl]
  refine r_use fok62 (good_calls A B C w1) rfl ?_
  rintro e w2 ⟨rfl, hk2⟩
  refine ⟨_, rfl, ?_⟩
  have hkw2 := Kp.trans hk hk2
  have hb2 := block_below hb hk2
  by_cases hv : validB A B C = true
  case neg =>
    have hv' : validB A B C = false := by simpa using hv
    simp (disch := omega) only [r_ln, r_pick, r_pickT, r_pickF, r_condT, r_condF, r_gdTT, r_gdFF, r_gdTF, r_gdFT, r_gqTT, r_gqFF, r_gqTF, r_gqFT, r_not, r_lss, r_leq, r_gtr, r_geq, r_eql, r_neq, r_add, r_sub, r_min2, r_max2, r_min3, r_max3, r_fa, r_iaS, r_iaA, r_ex2a, r_ex2b, r_ex3a, r_ex3b, r_ex3c, r_nc, r_keepE, Nat.zero_add, Nat.add_zero, Nat.mul_one, Int.toNat_natCast, toNat_sub1, toNat_add1, decide_true, decide_false, Bool.not_true, Bool.not_false, if_true, if_false, Bool.false_eq_true, reduceCtorEq, hv']
    exact ⟨nilS, 2, rfl, hkw2, by simp [RefHeap, hv']⟩
  have hvp := of_decide_eq_true hv
  by_cases hneg : rank < 0
  case pos =>
    simp (disch := omega) only [r_ln, r_pick, r_pickT, r_pickF, r_condT, r_condF, r_gdTT, r_gdFF, r_gdTF, r_gdFT, r_gqTT, r_gqFF, r_gqTF, r_gqFT, r_not, r_lss, r_leq, r_gtr, r_geq, r_eql, r_neq, r_add, r_sub, r_min2, r_max2, r_min3, r_max3, r_fa, r_iaS, r_iaA, r_ex2a, r_ex2b, r_ex3a, r_ex3b, r_ex3c, r_nc, r_keepE, Nat.zero_add, Nat.add_zero, Nat.mul_one, Int.toNat_natCast, toNat_sub1, toNat_add1, decide_true, decide_false, Bool.not_true, Bool.not_false, if_true, if_false, Bool.false_eq_true, reduceCtorEq, hv, hneg]
    exact ⟨nilS, 4, rfl, hkw2, by simp [RefHeap, hv, hneg]⟩
  simp (disch := omega) only [r_ln, r_pick, r_pickT, r_pickF, r_condT, r_condF, r_gdTT, r_gdFF, r_gdTF, r_gdFT, r_gqTT, r_gqFF, r_gqTF, r_gqFT, r_not, r_lss, r_leq, r_gtr, r_geq, r_eql, r_neq, r_add, r_sub, r_min2, r_max2, r_min3, r_max3, r_fa, r_iaS, r_iaA, r_ex2a, r_ex2b, r_ex3a, r_ex3b, r_ex3c, r_nc, r_keepE, Nat.zero_add, Nat.add_zero, Nat.mul_one, Int.toNat_natCast, toNat_sub1, toNat_add1, decide_true, decide_false, Bool.not_true, Bool.not_false, if_true, if_false, Bool.false_eq_true, reduceCtorEq, hv, hneg, r_ldRow (n := 3) hb2 rfl]
  obtain ⟨a, rfl⟩ := Int.eq_ofNat_of_zero_le (show 0 ≤ A by omega)
  obtain ⟨b', rfl⟩ := Int.eq_ofNat_of_zero_le (show 0 ≤ B by omega)
  obtain ⟨n, rfl⟩ := Int.eq_ofNat_of_zero_le (show 0 ≤ rank by omega)
  refine r_use fok66 (empty_calls a b' C w2 (by omega) (by omega) (by omega)) rfl ?_
  rintro e w3 ⟨v, rfl, hk3, g, bs, ho, hg, hbs⟩
  refine ⟨_, rfl, ?_⟩
  have hkw3 := Kp.trans hkw2 hk3
  have hb3 := block_below hb2 hk3
  have hlz : (zeros a b').length = a := by simp [zeros]
  have hbnew : ∀ i, i < a → w2.heap.size ≤ bs i := fun i hi => hbs i (by simpa using hi)
  have hblt := block_lt hb2
  have hS : ∀ k, (∃ i, i < a ∧ k = bs i) → w.heap.size ≤ k := fun k ⟨i, hi, e⟩ => by have := hbnew i hi; have := hkw2.size; omega
  have hSb : ¬ (∃ i, i < a ∧ b = bs i) := fun ⟨i, hi, e⟩ => by have := hbnew i hi; omega
  refine ⟨fun t7 wr => ∃ i : Nat, i ≤ n ∧ t7 = .int .i64 i ∧ Chg (fun k => ∃ i, i < a ∧ k = bs i) w3 wr ∧ ∃ h, iterN a b' C i = some h ∧ OwnRows wr v g bs h, fun t7 _ => n - (intOf t7).toNat,
    ⟨0, by omega, rfl, Chg.refl _ _, zeros a b', rfl, ho⟩, ?_⟩
  rintro _ _ wr ⟨i, hi, rfl, hch, h, hit, hoh⟩
  have hb4 := hch.at hb3 hSb
  obtain ⟨hsz4, hnn4⟩ := iterN_keeps (by omega) i h hit
  have hkwr : Kp w wr := Kp.of_chg hkw3 hch hS
  by_cases hlt : i < n
  case neg =>
    have hlt' : ¬ (i : Int) < (n : Int) := by omega
    simp (disch := omega) only [r_ln, r_pick, r_pickT, r_pickF, r_condT, r_condF, r_gdTT, r_gdFF, r_gdTF, r_gdFT, r_gqTT, r_gqFF, r_gqTF, r_gqFT, r_not, r_lss, r_leq, r_gtr, r_geq, r_eql, r_neq, r_add, r_sub, r_min2, r_max2, r_min3, r_max3, r_fa, r_iaS, r_iaA, r_ex2a, r_ex2b, r_ex3a, r_ex3b, r_ex3c, r_nc, r_keepE, Nat.zero_add, Nat.add_zero, Nat.mul_one, Int.toNat_natCast, toNat_sub1, toNat_add1, decide_true, decide_false, Bool.not_true, Bool.not_false, if_true, if_false, Bool.false_eq_true, reduceCtorEq, hlt']
    refine ⟨v, 0, rfl, hkwr, ?_⟩
    have hin : i = n := by omega
    subst hin
    simp only [RefHeap, hv, Bool.true_eq_false, if_false, Int.toNat_natCast, hit]
    rw [if_neg (by omega)]
    exact ⟨⟨g, bs, hoh, by have := hkw2.size; omega, fun k hk' => by rw [hsz4.1] at hk'; exact hS _ ⟨k, hk', rfl⟩⟩, trivial⟩
  have hlt' : (i : Int) < (n : Int) := by omega
  simp (disch := omega) only [r_ln, r_pick, r_pickT, r_pickF, r_condT, r_condF, r_gdTT, r_gdFF, r_gdTF, r_gdFT, r_gqTT, r_gqFF, r_gqTF, r_gqFT, r_not, r_lss, r_leq, r_gtr, r_geq, r_eql, r_neq, r_add, r_sub, r_min2, r_max2, r_min3, r_max3, r_fa, r_iaS, r_iaA, r_ex2a, r_ex2b, r_ex3a, r_ex3b, r_ex3c, r_nc, r_keepE, Nat.zero_add, Nat.add_zero, Nat.mul_one, Int.toNat_natCast, toNat_sub1, toNat_add1, decide_true, decide_false, Bool.not_true, Bool.not_false, if_true, if_false, Bool.false_eq_true, reduceCtorEq, hlt', r_ldRow (n := 3) hb4 rfl]
  refine r_use fok23 (next_calls a b' C v g bs h wr (by omega) (by omega) (by omega) (by omega) hoh hsz4 hnn4) rfl ?_
  rintro e w5 ⟨rfl, ho5, hch5⟩
  refine ⟨_, rfl, ?_⟩
  rw [hsz4.1] at hch5
  have hkw5 : Kp w w5 := Kp.of_chg hkwr hch5 hS
  cases hnx : nextM a b' C h with
  | none =>
    simp (disch := omega) only [r_ln, r_pick, r_pickT, r_pickF, r_condT, r_condF, r_gdTT, r_gdFF, r_gdTF, r_gdFT, r_gqTT, r_gqFF, r_gqTF, r_gqFT, r_not, r_lss, r_leq, r_gtr, r_geq, r_eql, r_neq, r_add, r_sub, r_min2, r_max2, r_min3, r_max3, r_fa, r_iaS, r_iaA, r_ex2a, r_ex2b, r_ex3a, r_ex3b, r_ex3c, r_nc, r_keepE, Nat.zero_add, Nat.add_zero, Nat.mul_one, Int.toNat_natCast, toNat_sub1, toNat_add1, decide_true, decide_false, Bool.not_true, Bool.not_false, if_true, if_false, Bool.false_eq_true, reduceCtorEq, Option.isSome_none]
    refine ⟨nilS, 4, rfl, hkw5, ?_⟩
    have : iterN a b' C n = none := by
      have h1 : iterN a b' C (i + 1) = none := by simp [iterN, hit, hnx]
      have := iterN_none h1 (n - (i + 1))
      rwa [show i + 1 + (n - (i + 1)) = n by omega] at this
    simp only [RefHeap, hv, Bool.true_eq_false, if_false, Int.toNat_natCast, this]
    rw [if_neg (by omega)]
    exact ⟨trivial, trivial⟩
  | some h' =>
    rw [hnx] at ho5
    simp (disch := omega) only [r_ln, r_pick, r_pickT, r_pickF, r_condT, r_condF, r_gdTT, r_gdFF, r_gdTF, r_gdFT, r_gqTT, r_gqFF, r_gqTF, r_gqFT, r_not, r_lss, r_leq, r_gtr, r_geq, r_eql, r_neq, r_add, r_sub, r_min2, r_max2, r_min3, r_max3, r_fa, r_iaS, r_iaA, r_ex2a, r_ex2b, r_ex3a, r_ex3b, r_ex3c, r_nc, r_keepE, Nat.zero_add, Nat.add_zero, Nat.mul_one, Int.toNat_natCast, toNat_sub1, toNat_add1, decide_true, decide_false, Bool.not_true, Bool.not_false, if_true, if_false, Bool.false_eq_true, reduceCtorEq, Option.isSome_some]
    exact ⟨⟨i + 1, by omega, by go_num, hch.trans hch5, h', by simp [iterN, hit, hnx], ho5⟩, by simp only [intOf]; omega⟩

end Go.Proofs.Ytaephdjmpmbfpaa

/- Numbers of ways to choose and determinants. Plain; no program. -/
namespace Go.Hp

/-- Pascal's numbers. -/
def ch : Nat → Nat → Nat
  | _, 0 => 1
  | 0, _ + 1 => 0
  | n + 1, k + 1 => ch n k + ch n (k + 1)

def chZ (n : Nat) (k : Int) : Int := if k < 0 then 0 else ch n k.toNat

theorem ch_big : ∀ (n k : Nat), n < k → ch n k = 0
  | _, 0, h => absurd h (by omega)
  | 0, k + 1, _ => rfl
  | n + 1, k + 1, h => by simp [ch, ch_big n k (by omega), ch_big n (k + 1) (by omega)]
theorem ch_self : ∀ n, ch n n = 1
  | 0 => rfl
  | n + 1 => by simp [ch, ch_self n, ch_big n (n + 1) (by omega)]
theorem ch_zero (n : Nat) : ch n 0 = 1 := by cases n <;> rfl
theorem ch_step : ∀ n, n < 9 → ∀ i, i < n → ch n i * (n - i) / (i + 1) = ch n (i + 1) := by decide
theorem ch_small : ∀ n, n < 9 → ∀ i, i < 9 → ch n i ≤ 70 := by decide
theorem ch_le {n k : Nat} (hn : n ≤ 8) : ch n k ≤ 70 := by
  by_cases h : k < 9
  · exact ch_small n (by omega) k h
  · rw [ch_big n k (by omega)]; omega
theorem chZ_le {n : Nat} {k : Int} (hn : n ≤ 8) : 0 ≤ chZ n k ∧ chZ n k ≤ 70 := by
  unfold chZ
  split
  · omega
  · have := ch_le (k := k.toNat) hn; omega
theorem ch_stepZ {n i : Nat} (hn : n ≤ 8) (hi : i < n) : ((ch n i : Nat) : Int) * ((n : Int) - i) / ((i : Int) + 1) = (ch n (i + 1) : Nat) := by
  have e : (n : Int) - i = ((n - i : Nat) : Int) := by omega
  rw [e, ← ch_step n (by omega) i hi]
  rfl
theorem ch_mulZ {n i : Nat} (hn : n ≤ 8) (hi : i < n) : 0 ≤ ((ch n i : Nat) : Int) * ((n : Int) - i) ∧ ((ch n i : Nat) : Int) * ((n : Int) - i) ≤ 560 := by
  have e : (n : Int) - i = ((n - i : Nat) : Int) := by omega
  rw [e]
  have h1 := ch_le (k := i) hn
  have h2 : ch n i * (n - i) ≤ 70 * 8 := Nat.mul_le_mul h1 (by omega)
  have e2 : ((ch n i : Nat) : Int) * ((n - i : Nat) : Int) = ((ch n i * (n - i) : Nat) : Int) := by simp
  rw [e2]; omega

/-- A matrix without its first row and column j. -/
def minorM (j : Nat) (m : List (List Int)) : List (List Int) := (m.drop 1).map fun r => r.take j ++ r.drop (j + 1)

def sg (j : Nat) : Int := if j % 2 = 0 then 1 else -1
theorem sg_succ (j : Nat) : sg (j + 1) = - sg j := by unfold sg; split <;> split <;> omega
theorem sg_abs (j : Nat) : (sg j).natAbs = 1 := by unfold sg; split <;> rfl
theorem sg_small (j : Nat) : -1 ≤ sg j ∧ sg j ≤ 1 := by unfold sg; split <;> omega

/-- f 0 + .. + f (j - 1) -/
def sumTo (f : Nat → Int) : Nat → Int
  | 0 => 0
  | j + 1 => sumTo f j + f j

def detM : Nat → List (List Int) → Int
  | 0, _ => 1
  | n + 1, m => sumTo (fun j => sg j * hat m 0 j * detM n (minorM j m)) (n + 1)

def Small (m : List (List Int)) : Prop := ∀ i j, (hat m i j).natAbs ≤ 100

theorem minor_row {n j : Nat} {m : List (List Int)} (hs : Sized (n + 1) (n + 1) m) {i : Nat} (hi : i < n) : (minorM j m).getD i [] = (m.getD (i + 1) []).take j ++ (m.getD (i + 1) []).drop (j + 1) := by
  have hl := hs.1
  simp only [minorM, List.getD_eq_getElem?_getD, List.getElem?_map, List.getElem?_drop, Nat.add_comm 1 i]
  rw [List.getElem?_eq_getElem (show i + 1 < m.length by omega)]
  rfl

theorem minor_sized {n j : Nat} {m : List (List Int)} (hs : Sized (n + 1) (n + 1) m) (hj : j < n + 1) : Sized n n (minorM j m) := by
  refine ⟨by simp [minorM, hs.1], fun i hi => ?_⟩
  rw [minor_row hs hi]
  have := hs.2 (i + 1) (by omega)
  simp only [List.length_append, List.length_take, List.length_drop]
  omega

theorem minor_small {n j : Nat} {m : List (List Int)} (hs : Sized (n + 1) (n + 1) m) (h : Small m) : Small (minorM j m) := by
  intro i k
  by_cases hi : i < n
  · unfold hat
    rw [minor_row hs hi]
    have h1 := h (i + 1)
    unfold hat at h1
    generalize m.getD (i + 1) [] = r at h1
    rw [List.getD_eq_getElem?_getD]
    by_cases hk : k < (r.take j).length
    · rw [List.getElem?_append_left hk, List.getElem?_take]
      have := h1 k
      rw [List.getD_eq_getElem?_getD] at this
      split
      · exact this
      · simp
    · rw [List.getElem?_append_right (by omega), List.getElem?_drop]
      have := h1 (j + 1 + (k - (r.take j).length))
      rw [List.getD_eq_getElem?_getD] at this
      exact this
  · have hl := (minorM j m).length
    have : (minorM j m).length = n := by simp [minorM, hs.1]
    unfold hat
    have e : (minorM j m).getD i [] = [] := by
      rw [List.getD_eq_getElem?_getD, List.getElem?_eq_none (by omega)]; rfl
    rw [e]; simp

def dBound : Nat → Nat
  | 0 => 1
  | n + 1 => (n + 1) * (100 * dBound n)

theorem sumTo_abs {f : Nat → Int} {b : Nat} (h : ∀ j, (f j).natAbs ≤ b) : ∀ n, (sumTo f n).natAbs ≤ n * b
  | 0 => by simp [sumTo]
  | n + 1 => by
    have h1 := sumTo_abs h n
    have h2 := h n
    have h3 : (sumTo f (n + 1)).natAbs ≤ (sumTo f n).natAbs + (f n).natAbs := by simp only [sumTo]; omega
    rw [Nat.add_mul, Nat.one_mul]
    omega

theorem det_abs : ∀ (n : Nat) (m : List (List Int)), Sized n n m → Small m → (detM n m).natAbs ≤ dBound n
  | 0, m, _, _ => by simp [detM, dBound]
  | n + 1, m, hs, h => by
    have hterm : ∀ j, j < n + 1 → (sg j * hat m 0 j * detM n (minorM j m)).natAbs ≤ 100 * dBound n := fun j hj => by
      rw [Int.natAbs_mul, Int.natAbs_mul, sg_abs, Nat.one_mul]
      exact Nat.mul_le_mul (h 0 j) (det_abs n _ (minor_sized hs hj) (minor_small hs h))
    have : ∀ k, k ≤ n + 1 → (sumTo (fun j => sg j * hat m 0 j * detM n (minorM j m)) k).natAbs ≤ k * (100 * dBound n) := by
      intro k
      induction k with
      | zero => intro _; simp [sumTo]
      | succ k ih =>
        intro hk
        have h1 := ih (by omega)
        have h2 := hterm k (by omega)
        have h3 : (sumTo (fun j => sg j * hat m 0 j * detM n (minorM j m)) (k + 1)).natAbs ≤ (sumTo (fun j => sg j * hat m 0 j * detM n (minorM j m)) k).natAbs + (sg k * hat m 0 k * detM n (minorM k m)).natAbs := by simp only [sumTo]; omega
        rw [Nat.add_mul, Nat.one_mul]
        omega
    exact this (n + 1) (Nat.le_refl _)

theorem dBound_le {n : Nat} (h : n ≤ 3) : dBound n ≤ 6000000 := by
  have : n = 0 ∨ n = 1 ∨ n = 2 ∨ n = 3 := by omega
  rcases this with rfl | rfl | rfl | rfl <;> decide

/-- What a step of the determinant's sum meets. -/
theorem det_step {n : Nat} {m : List (List Int)} (hn : n ≤ 3) (hs : Sized (n + 1) (n + 1) m) (h : Small m) {j : Nat} (hj : j < n + 1) :
    (sg j * hat m 0 j).natAbs ≤ 100 ∧ (detM n (minorM j m)).natAbs ≤ 6000000 ∧ (sg j * hat m 0 j * detM n (minorM j m)).natAbs ≤ 600000000 ∧ (sumTo (fun j => sg j * hat m 0 j * detM n (minorM j m)) j).natAbs ≤ 2400000000 := by
  have h1 : ∀ j, (sg j * hat m 0 j).natAbs ≤ 100 := fun j => by rw [Int.natAbs_mul, sg_abs, Nat.one_mul]; exact h 0 j
  have h2 : ∀ j, j < n + 1 → (detM n (minorM j m)).natAbs ≤ 6000000 := fun j hj => Nat.le_trans (det_abs n _ (minor_sized hs hj) (minor_small hs h)) (dBound_le hn)
  have h3 : ∀ j, j < n + 1 → (sg j * hat m 0 j * detM n (minorM j m)).natAbs ≤ 600000000 := fun j hj => by rw [Int.natAbs_mul]; exact Nat.le_trans (Nat.mul_le_mul (h1 j) (h2 j hj)) (by decide)
  refine ⟨h1 j, h2 j hj, h3 j hj, ?_⟩
  have : ∀ k, k ≤ n + 1 → (sumTo (fun j => sg j * hat m 0 j * detM n (minorM j m)) k).natAbs ≤ k * 600000000 := by
    intro k
    induction k with
    | zero => intro _; simp [sumTo]
    | succ k ih =>
      intro hk
      have h4 := ih (by omega)
      have h5 := h3 k (by omega)
      have h6 : (sumTo (fun j => sg j * hat m 0 j * detM n (minorM j m)) (k + 1)).natAbs ≤ (sumTo (fun j => sg j * hat m 0 j * detM n (minorM j m)) k).natAbs + (sg k * hat m 0 k * detM n (minorM k m)).natAbs := by simp only [sumTo]; omega
      rw [Nat.add_mul, Nat.one_mul]
      omega
  have h7 := this j (by omega)
  omega

/-- The matrix of paths. -/
def pathsM (A B C : Nat) : List (List Int) := (List.range A).map fun i => (List.range A).map fun j => chZ (B + C) ((B : Int) - (i : Nat) + (j : Nat))

theorem pathsM_row {A B C i : Nat} (hi : i < A) : (pathsM A B C).getD i [] = (List.range A).map fun j => chZ (B + C) ((B : Int) - (i : Nat) + (j : Nat)) := by
  simp [pathsM, hi]
theorem pathsM_sized (A B C : Nat) : Sized A A (pathsM A B C) := ⟨by simp [pathsM], fun i hi => by rw [pathsM_row hi]; simp⟩
theorem pathsM_small {A B C : Nat} (h : B + C ≤ 8) : Small (pathsM A B C) := by
  intro i j
  by_cases hi : i < A
  · unfold hat
    rw [pathsM_row hi]
    by_cases hj : j < A
    · have := chZ_le (k := (B : Int) - (i : Nat) + (j : Nat)) h
      simp [hj]; omega
    · simp [hj]
  · unfold hat
    have e : (pathsM A B C).getD i [] = [] := by
      rw [List.getD_eq_getElem?_getD, List.getElem?_eq_none (by simp [pathsM]; omega)]; rfl
    rw [e]; simp

end Go.Hp
