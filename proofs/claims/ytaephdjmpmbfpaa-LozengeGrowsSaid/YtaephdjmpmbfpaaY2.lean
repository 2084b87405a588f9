/- Contract: LozengeSymmetries. -/
import Derived.Test.YtaephdjmpmbfpaaY1
import Derived.Test.YtaephdjmpmbfpaaV3
set_option linter.all false
namespace Go.Proofs.Ytaephdjmpmbfpaa
open Go.Lf Go.RowKit Go.Hp

theorem heapErr_of {a b c : Nat} {h : List (List Int)} (ha : 1 ≤ a ∧ a ≤ 4) (hb : 1 ≤ b ∧ b ≤ 4) (hc : 1 ≤ c ∧ c ≤ 4) (hh : IsHeap a b c h) : heapErr a b c h = 0 := by
  unfold heapErr
  rw [if_pos ⟨by simp [validB]; omega, heapOk_iff.2 hh⟩]

theorem chgRes_new {A B C : Int} {h R : List (List Int)} {w w' : World} {v : Value} {err : Int} (he : heapErr A B C h = 0) (h1 : ChgRes A B C h R w w' v err) : NewRows w w' v R ∧ err = 0 := by
  obtain ⟨rfl, h2⟩ := h1
  rw [if_pos he] at h2
  exact ⟨h2, he⟩

theorem heap_entries {a b c : Nat} {h : List (List Int)} (ha : 1 ≤ a ∧ a ≤ 4) (hb : 1 ≤ b ∧ b ≤ 4) (hc : 1 ≤ c ∧ c ≤ 4) (hh : IsHeap a b c h) : ∀ l ∈ h, ∀ x ∈ l, 0 ≤ x ∧ x ≤ 1000000 :=
  heaps_entries (A := a) (C := c) (by omega) hb.2 hc.2 ((heapOk_mem (A := a) (by omega) hb.2).1 (heapOk_iff.2 hh))

theorem vol_calls {a b c : Nat} {v : Value} {h : List (List Int)} {w : World} (ha : 1 ≤ a ∧ a ≤ 4) (hb : 1 ≤ b ∧ b ≤ 4) (hc : 1 ≤ c ∧ c ≤ 4) (hh : IsHeap a b c h) (hr : RdRows w v h) :
    Calls Try.prog 13 #[v] w fun e w' => e = .returned (.int .i64 (volM h)) ∧ Kp w w' := by
  have hs := sized_of hh
  exact volume_calls v h w hr (by rw [hs.1]; omega) (fun i hi => by rw [hs.2 i (by rw [← hs.1]; exact hi)]; omega) (heap_entries ha hb hc hh)

theorem vol_small {a b c : Nat} {h : List (List Int)} (ha : 1 ≤ a ∧ a ≤ 4) (hb : 1 ≤ b ∧ b ≤ 4) (hc : 1 ≤ c ∧ c ≤ 4) (hh : IsHeap a b c h) : 0 ≤ volM h ∧ volM h ≤ 64 := by
  have h1 := heaps_vol (A := a) (C := c) hb.2 ((heapOk_mem (A := a) (by omega) hb.2).1 (heapOk_iff.2 hh))
  have h2 : a * b * c ≤ 64 := Nat.mul_le_mul (Nat.mul_le_mul ha.2 hb.2) hc.2
  omega

set_option maxRecDepth 100000 in
theorem sym_calls (a b c r : Nat) (w : World) (ha : a ≤ 255) (hb : b ≤ 255) (hc : c ≤ 255) (hr : r ≤ 4294967295) :
    Calls Try.prog 8 #[.int .u8 a, .int .u8 b, .int .u8 c, .int .u32 r] w fun e w' => e = .returned (.bool true) ∧ Kp w w' := by
  refine lift8 ?_
  unfold S8
  refine r_use fok12 (boxed_calls a b c r w ha hb hc hr) rfl ?_
  rintro _ w1 ⟨v, rfl, k1, hnew⟩
  refine ⟨_, rfl, ?_⟩
  have hok := heapOf_ok a b c r
  have hA := side_range a
  have hB := side_range b
  have hC := side_range c
  generalize side a = A at *
  generalize side b = B at *
  generalize side c = C at *
  generalize heapOf a b c r = h at *
  have hh := heapOk_iff.1 hok
  have hs := sized_of hh
  simp only [r_ex2a, r_ex2b]
  refine r_box fun b9 w2 e9 s9 h9 k2 => ?_
  refine r_stAll (n := 3) (ty := 25) (by kernel_rfl) rfl (by intro u hu; simp [Value.cells] at hu; rcases hu with rfl | rfl | rfl <;> rfl) h9 rfl fun w3 c3 s3 h3 => ?_
  have k3 : Kp w1 w3 := Kp.of_chg k2 c3 fun i e => by omega
  refine r_drew fun w4 k4 _ => ?_
  have h4 := block_below h3 k4
  have k14 := Kp.trans k3 k4
  refine r_join2 (fun t11 t12 w' => ∃ b11 b12, t11 = ptrV b11 ∧ t12 = ptrV b12 ∧ Kp w4 w' ∧ w'.heap[b11]? = some (.cells (boxV C A B).cells 25 (0, 0)) ∧ w'.heap[b12]? = some (.cells (boxV B C A).cells 25 (0, 0))) ?_ ?_
  rotate_left
  · intro kk hkk
    obtain ⟨c0, c1, c2⟩ := box3 h4
    obtain ⟨X, hX⟩ : ∃ X : Nat → Prop, X = fun k => w4.heap.size ≤ k := ⟨_, rfl⟩
    refine ⟨X, ?_⟩
    have h4lt := block_lt h4
    have nX : ¬ X b9 := by rw [hX]; exact fun h => absurd h (by omega)
    have e2 : (⟨b9, 0 + 2, none⟩ : Addr) = ⟨b9, 2, none⟩ := rfl
    simp (disch := omega) only [r_ln, r_pick, r_pickT, r_pickF, r_condT, r_condF, r_gdTT, r_gdFF, r_gdTF, r_gdFT, r_gqTT, r_gqFF, r_gqTF, r_gqFT, r_not, r_lss, r_leq, r_gtr, r_geq, r_eql, r_neq, r_add, r_sub, r_min2, r_max2, r_min3, r_max3, r_fa, r_iaS, r_iaA, r_ex2a, r_ex2b, r_ex3a, r_ex3b, r_ex3c, r_nc, r_keepE, Nat.zero_add, Nat.add_zero, Nat.mul_one, Int.toNat_natCast, toNat_sub1, toNat_add1, decide_true, decide_false, Bool.not_true, Bool.not_false, if_true, if_false, Bool.false_eq_true, reduceCtorEq, r_tx, r_txl (X := X) c0 nX, r_txl (X := X) c1 nX, r_txl (X := X) c2 nX, bd25']
    refine ⟨?_, ?_, trivial⟩
    · refine r_box fun b11 w5 e5 s5 h5 k5 => ⟨BX.of_below k5, ?_⟩
      refine r_box fun b12 w6 e6 s6 h6 k6 => ⟨BX.of_below k6, ?_⟩
      refine r_stAll (n := 3) (ty := 25) (by kernel_rfl) rfl (by intro u hu; simp [Value.cells] at hu; rcases hu with rfl | rfl | rfl <;> rfl) (block_below h5 k6) rfl fun w7 c7 s7 h7 => ?_
      refine ⟨BX.of_chg (c7.mono fun k _ e => by rw [hX]; dsimp only; omega), ?_⟩
      refine r_stAll (n := 3) (ty := 25) (by kernel_rfl) rfl (by intro u hu; simp [Value.cells] at hu; rcases hu with rfl | rfl | rfl <;> rfl) (c7.at h6 (by omega)) rfl fun w8 c8 s8 h8 => ?_
      exact hkk _ _ _ ⟨b11, b12, rfl, rfl, Kp.of_chg (Kp.of_chg (Kp.trans k5 k6) c7 fun i e => by omega) c8 fun i e => by omega, c8.at h7 (by omega), h8⟩
    · refine r_box fun b12 w5 e5 s5 h5 k5 => ⟨BX.of_below k5, ?_⟩
      refine r_box fun b11 w6 e6 s6 h6 k6 => ⟨BX.of_below k6, ?_⟩
      refine r_stAll (n := 3) (ty := 25) (by kernel_rfl) rfl (by intro u hu; simp [Value.cells] at hu; rcases hu with rfl | rfl | rfl <;> rfl) h6 rfl fun w7 c7 s7 h7 => ?_
      refine ⟨BX.of_chg (c7.mono fun k _ e => by rw [hX]; dsimp only; omega), ?_⟩
      refine r_stAll (n := 3) (ty := 25) (by kernel_rfl) rfl (by intro u hu; simp [Value.cells] at hu; rcases hu with rfl | rfl | rfl <;> rfl) (c7.at (block_below h5 k6) (by omega)) rfl fun w8 c8 s8 h8 => ?_
      exact hkk _ _ _ ⟨b11, b12, rfl, rfl, Kp.of_chg (Kp.of_chg (Kp.trans k5 k6) c7 fun i e => by omega) c8 fun i e => by omega, c8.at h7 (by omega), h8⟩
  rintro _ _ x0 ⟨b11, b12, rfl, rfl, y0, h11, h12⟩
  have p0 := block_below h4 y0
  have k10 := Kp.trans k14 y0
  have hr0 := hnew.rd.below k10
  have herr := heapErr_of hA hB hC hh
  refine r_use fok13 (vol_calls hA hB hC hh hr0) rfl ?_
  rintro _ x1 ⟨rfl, y1⟩
  refine ⟨_, rfl, ?_⟩
  have p1 := block_below p0 y1
  have hr1 := hr0.below y1
  rw [r_ldRow (n := 3) p1 rfl]
  refine r_use fok36 (complement_calls A B C v h x1 hr1) rfl ?_
  rintro _ x2 ⟨vm, em, rfl, y2, c_hm⟩
  refine ⟨_, rfl, ?_⟩
  obtain ⟨hm, rfl⟩ := chgRes_new herr c_hm
  simp only [Int.toNat_natCast] at hm
  have hhm := comp_heap hh
  have p2 := block_below p1 y2
  simp only [r_ex2a, r_ex2b]
  rw [r_ldRow (n := 3) p2 rfl]
  refine r_use fok36 (complement_calls A B C vm _ x2 hm.rd) rfl ?_
  rintro _ x3 ⟨vk, ek, rfl, y3, c_hkk⟩
  refine ⟨_, rfl, ?_⟩
  obtain ⟨hkk, rfl⟩ := chgRes_new (heapErr_of hA hB hC hhm) c_hkk
  simp only [Int.toNat_natCast] at hkk
  rw [comp_comp hs] at hkk
  have p3 := block_below p2 y3
  simp only [r_ex2a, r_ex2b]
  rw [r_ldRow (n := 3) p3 rfl]
  refine r_use fok37 (transpose_calls A B C v h x3 (hr1.below (Kp.trans y2 y3))) rfl ?_
  rintro _ x4 ⟨vt, et, rfl, y4, c_ht⟩
  refine ⟨_, rfl, ?_⟩
  obtain ⟨ht, rfl⟩ := chgRes_new herr c_ht
  simp only [Int.toNat_natCast] at ht
  have hht := trans_heap hh
  have p4 := block_below p3 y4
  obtain ⟨c0, c1, c2⟩ := box3 p4
  simp only [r_ln, r_pick, r_pickT, r_pickF, r_condT, r_condF, r_gdTT, r_gdFF, r_gdTF, r_gdFT, r_gqTT, r_gqFF, r_gqTF, r_gqFT, r_not, r_lss, r_leq, r_gtr, r_geq, r_eql, r_neq, r_add, r_sub, r_min2, r_max2, r_min3, r_max3, r_fa, r_iaS, r_iaA, r_ex2a, r_ex2b, r_ex3a, r_ex3b, r_ex3c, r_nc, r_keepE, Nat.zero_add, Nat.add_zero, Nat.mul_one, Int.toNat_natCast, toNat_sub1, toNat_add1, decide_true, decide_false, Bool.not_true, Bool.not_false, if_true, if_false, Bool.false_eq_true, reduceCtorEq, r_ld c0, r_ld c1, r_ld c2, bd25']
  refine r_use fok37 (transpose_calls B A C vt _ x4 ht.rd) rfl ?_
  rintro _ x5 ⟨vu, eu, rfl, y5, c_hu⟩
  refine ⟨_, rfl, ?_⟩
  obtain ⟨hu, rfl⟩ := chgRes_new (heapErr_of hB hA hC hht) c_hu
  simp only [Int.toNat_natCast] at hu
  rw [trans_trans hs] at hu
  have p5 := block_below p4 y5
  simp only [r_ex2a, r_ex2b]
  refine r_drew fun x6 y6 _ => ?_
  have p6 := block_below p5 y6
  have y26 : Kp x2 x6 := Kp.trans (Kp.trans y3 y4) (Kp.trans y5 y6)
  have hr6 := hr1.below (Kp.trans y2 y26)
  simp (disch := omega) only [r_ln, r_pick, r_pickT, r_pickF, r_condT, r_condF, r_gdTT, r_gdFF, r_gdTF, r_gdFT, r_gqTT, r_gqFF, r_gqTF, r_gqFT, r_not, r_lss, r_leq, r_gtr, r_geq, r_eql, r_neq, r_add, r_sub, r_min2, r_max2, r_min3, r_max3, r_fa, r_iaS, r_iaA, r_ex2a, r_ex2b, r_ex3a, r_ex3b, r_ex3c, r_nc, r_keepE, Nat.zero_add, Nat.add_zero, Nat.mul_one, Int.toNat_natCast, toNat_sub1, toNat_add1, decide_true, decide_false, Bool.not_true, Bool.not_false, if_true, if_false, Bool.false_eq_true, reduceCtorEq]
  refine r_use fok20 (same_calls vk v h h x6 (hkk.rd.below (Kp.trans y4 (Kp.trans y5 y6))) hr6) rfl ?_
  rintro _ x7 ⟨rfl, y7⟩
  refine ⟨_, rfl, ?_⟩
  simp (disch := omega) only [r_ln, r_pick, r_pickT, r_pickF, r_condT, r_condF, r_gdTT, r_gdFF, r_gdTF, r_gdFT, r_gqTT, r_gqFF, r_gqTF, r_gqFT, r_not, r_lss, r_leq, r_gtr, r_geq, r_eql, r_neq, r_add, r_sub, r_min2, r_max2, r_min3, r_max3, r_fa, r_iaS, r_iaA, r_ex2a, r_ex2b, r_ex3a, r_ex3b, r_ex3c, r_nc, r_keepE, Nat.zero_add, Nat.add_zero, Nat.mul_one, Int.toNat_natCast, toNat_sub1, toNat_add1, decide_true, decide_false, Bool.not_true, Bool.not_false, if_true, if_false, Bool.false_eq_true, reduceCtorEq]
  refine r_use fok20 (same_calls vu v h h x7 (hu.rd.below (Kp.trans y6 y7)) (hr6.below y7)) rfl ?_
  rintro _ x8 ⟨rfl, y8⟩
  refine ⟨_, rfl, y8, ?_⟩
  have p8 := block_below p6 (Kp.trans y7 y8)
  obtain ⟨c0, c1, c2⟩ := box3 p8
  have hvs := vol_small hA hB hC hh
  have hab1 : A * B ≤ 16 := Nat.mul_le_mul hA.2 hB.2
  have hab : A * B * C ≤ 64 := Nat.mul_le_mul hab1 hC.2
  simp (disch := omega) only [r_ln, r_pick, r_pickT, r_pickF, r_condT, r_condF, r_gdTT, r_gdFF, r_gdTF, r_gdFT, r_gqTT, r_gqFF, r_gqTF, r_gqFT, r_not, r_lss, r_leq, r_gtr, r_geq, r_eql, r_neq, r_add, r_sub, r_min2, r_max2, r_min3, r_max3, r_fa, r_iaS, r_iaA, r_ex2a, r_ex2b, r_ex3a, r_ex3b, r_ex3c, r_nc, r_keepE, Nat.zero_add, Nat.add_zero, Nat.mul_one, Int.toNat_natCast, toNat_sub1, toNat_add1, decide_true, decide_false, Bool.not_true, Bool.not_false, if_true, if_false, Bool.false_eq_true, reduceCtorEq, r_ld c0, r_ld c1, r_ld c2, r_mulN]
  refine r_use fok13 (vol_calls hA hB hC hhm (hm.rd.below (Kp.trans y26 (Kp.trans y7 y8)))) rfl ?_
  rintro _ x9 ⟨rfl, y9⟩
  refine ⟨_, rfl, y9, ?_⟩
  rw [comp_vol hs]
  simp (disch := omega) only [r_ln, r_pick, r_pickT, r_pickF, r_condT, r_condF, r_gdTT, r_gdFF, r_gdTF, r_gdFT, r_gqTT, r_gqFF, r_gqTF, r_gqFT, r_not, r_lss, r_leq, r_gtr, r_geq, r_eql, r_neq, r_add, r_sub, r_min2, r_max2, r_min3, r_max3, r_fa, r_iaS, r_iaA, r_ex2a, r_ex2b, r_ex3a, r_ex3b, r_ex3c, r_nc, r_keepE, Nat.zero_add, Nat.add_zero, Nat.mul_one, Int.toNat_natCast, toNat_sub1, toNat_add1, decide_true, decide_false, Bool.not_true, Bool.not_false, if_true, if_false, Bool.false_eq_true, reduceCtorEq]
  have y49 : Kp x4 x9 := Kp.trans (Kp.trans y5 y6) (Kp.trans y7 (Kp.trans y8 y9))
  refine r_use fok13 (vol_calls hB hA hC hht (ht.rd.below y49)) rfl ?_
  rintro _ x10 ⟨rfl, y10⟩
  refine ⟨_, rfl, y10, ?_⟩
  rw [trans_vol hs]
  have p10 := block_below p8 (Kp.trans y9 y10)
  simp (disch := omega) only [r_ln, r_pick, r_pickT, r_pickF, r_condT, r_condF, r_gdTT, r_gdFF, r_gdTF, r_gdFT, r_gqTT, r_gqFF, r_gqTF, r_gqFT, r_not, r_lss, r_leq, r_gtr, r_geq, r_eql, r_neq, r_add, r_sub, r_min2, r_max2, r_min3, r_max3, r_fa, r_iaS, r_iaA, r_ex2a, r_ex2b, r_ex3a, r_ex3b, r_ex3c, r_nc, r_keepE, Nat.zero_add, Nat.add_zero, Nat.mul_one, Int.toNat_natCast, toNat_sub1, toNat_add1, decide_true, decide_false, Bool.not_true, Bool.not_false, if_true, if_false, Bool.false_eq_true, reduceCtorEq, r_ldRow (n := 3) p10 rfl]
  have hr10 := hr6.below (Kp.trans y7 (Kp.trans y8 (Kp.trans y9 y10)))
  have y010 : Kp x0 x10 := Kp.trans y1 (Kp.trans (Kp.trans y2 y26) (Kp.trans y7 (Kp.trans y8 (Kp.trans y9 y10))))
  refine r_use fok38 (turnf_calls A B C v h x10 hr10) rfl ?_
  rintro _ z1 ⟨vo, eo, rfl, u1, c_ho⟩
  refine ⟨_, rfl, ?_⟩
  obtain ⟨ho, rfl⟩ := chgRes_new herr c_ho
  simp only [Int.toNat_natCast] at ho
  have hho := turn_heap hh
  have h11' := block_below h11 (Kp.trans y010 u1)
  simp only [r_ex2a, r_ex2b]
  rw [r_ldRow (n := 3) h11' rfl]
  refine r_use fok38 (turnf_calls C A B vo _ z1 ho.rd) rfl ?_
  rintro _ z2 ⟨vp, ep, rfl, u2, c_hp⟩
  refine ⟨_, rfl, ?_⟩
  obtain ⟨hp, rfl⟩ := chgRes_new (heapErr_of hC hA hB hho) c_hp
  simp only [Int.toNat_natCast] at hp
  have hhp := turn_heap hho
  have h12' := block_below h12 (Kp.trans y010 (Kp.trans u1 u2))
  simp only [r_ex2a, r_ex2b]
  rw [r_ldRow (n := 3) h12' rfl]
  refine r_use fok38 (turnf_calls B C A vp _ z2 hp.rd) rfl ?_
  rintro _ z3 ⟨vq, eq, rfl, u3, c_hq⟩
  refine ⟨_, rfl, ?_⟩
  obtain ⟨hq, rfl⟩ := chgRes_new (heapErr_of hB hC hA hhp) c_hq
  simp only [Int.toNat_natCast] at hq
  rw [turn_turn hh] at hq
  simp (disch := omega) only [r_ln, r_pick, r_pickT, r_pickF, r_condT, r_condF, r_gdTT, r_gdFF, r_gdTF, r_gdFT, r_gqTT, r_gqFF, r_gqTF, r_gqFT, r_not, r_lss, r_leq, r_gtr, r_geq, r_eql, r_neq, r_add, r_sub, r_min2, r_max2, r_min3, r_max3, r_fa, r_iaS, r_iaA, r_ex2a, r_ex2b, r_ex3a, r_ex3b, r_ex3c, r_nc, r_keepE, Nat.zero_add, Nat.add_zero, Nat.mul_one, Int.toNat_natCast, toNat_sub1, toNat_add1, decide_true, decide_false, Bool.not_true, Bool.not_false, if_true, if_false, Bool.false_eq_true, reduceCtorEq]
  refine r_use fok20 (same_calls vq v h h z3 hq.rd (hr10.below (Kp.trans u1 (Kp.trans u2 u3)))) rfl ?_
  rintro _ z4 ⟨rfl, u4⟩
  refine ⟨_, rfl, ?_⟩
  simp (disch := omega) only [r_ln, r_pick, r_pickT, r_pickF, r_condT, r_condF, r_gdTT, r_gdFF, r_gdTF, r_gdFT, r_gqTT, r_gqFF, r_gqTF, r_gqFT, r_not, r_lss, r_leq, r_gtr, r_geq, r_eql, r_neq, r_add, r_sub, r_min2, r_max2, r_min3, r_max3, r_fa, r_iaS, r_iaA, r_ex2a, r_ex2b, r_ex3a, r_ex3b, r_ex3c, r_nc, r_keepE, Nat.zero_add, Nat.add_zero, Nat.mul_one, Int.toNat_natCast, toNat_sub1, toNat_add1, decide_true, decide_false, Bool.not_true, Bool.not_false, if_true, if_false, Bool.false_eq_true, reduceCtorEq]
  refine r_use fok13 (vol_calls hC hA hB hho (ho.rd.below (Kp.trans u2 (Kp.trans u3 u4)))) rfl ?_
  rintro _ z5 ⟨rfl, u5⟩
  refine ⟨_, rfl, ?_⟩
  rw [turn_vol hh]
  simp (disch := omega) only [r_ln, r_pick, r_pickT, r_pickF, r_condT, r_condF, r_gdTT, r_gdFF, r_gdTF, r_gdFT, r_gqTT, r_gqFF, r_gqTF, r_gqFT, r_not, r_lss, r_leq, r_gtr, r_geq, r_eql, r_neq, r_add, r_sub, r_min2, r_max2, r_min3, r_max3, r_fa, r_iaS, r_iaA, r_ex2a, r_ex2b, r_ex3a, r_ex3b, r_ex3c, r_nc, r_keepE, Nat.zero_add, Nat.add_zero, Nat.mul_one, Int.toNat_natCast, toNat_sub1, toNat_add1, decide_true, decide_false, Bool.not_true, Bool.not_false, if_true, if_false, Bool.false_eq_true, reduceCtorEq]
  refine r_use fok13 (vol_calls hB hC hA hhp (hp.rd.below (Kp.trans u3 (Kp.trans u4 u5)))) rfl ?_
  rintro _ z6 ⟨rfl, u6⟩
  refine ⟨_, rfl, ?_⟩
  rw [turn_vol hho, turn_vol hh]
  simp (disch := omega) only [r_ln, r_pick, r_pickT, r_pickF, r_condT, r_condF, r_gdTT, r_gdFF, r_gdTF, r_gdFT, r_gqTT, r_gqFF, r_gqTF, r_gqFT, r_not, r_lss, r_leq, r_gtr, r_geq, r_eql, r_neq, r_add, r_sub, r_min2, r_max2, r_min3, r_max3, r_fa, r_iaS, r_iaA, r_ex2a, r_ex2b, r_ex3a, r_ex3b, r_ex3c, r_nc, r_keepE, Nat.zero_add, Nat.add_zero, Nat.mul_one, Int.toNat_natCast, toNat_sub1, toNat_add1, decide_true, decide_false, Bool.not_true, Bool.not_false, if_true, if_false, Bool.false_eq_true, reduceCtorEq]
  refine r_use fok17 (alive_calls z6) rfl ?_
  rintro _ z7 ⟨rfl, u7⟩
  refine ⟨_, rfl, ?_⟩
  simp (disch := omega) only [r_ln, r_pick, r_pickT, r_pickF, r_condT, r_condF, r_gdTT, r_gdFF, r_gdTF, r_gdFT, r_gqTT, r_gqFF, r_gqTF, r_gqFT, r_not, r_lss, r_leq, r_gtr, r_geq, r_eql, r_neq, r_add, r_sub, r_min2, r_max2, r_min3, r_max3, r_fa, r_iaS, r_iaA, r_ex2a, r_ex2b, r_ex3a, r_ex3b, r_ex3c, r_nc, r_keepE, Nat.zero_add, Nat.add_zero, Nat.mul_one, Int.toNat_natCast, toNat_sub1, toNat_add1, decide_true, decide_false, Bool.not_true, Bool.not_false, if_true, if_false, Bool.false_eq_true, reduceCtorEq]
  exact ⟨trivial, Kp.trans k1 (Kp.trans k10 (Kp.trans y010 (Kp.trans (Kp.trans u1 u2) (Kp.trans (Kp.trans u3 u4) (Kp.trans u5 (Kp.trans u6 u7))))))⟩

end Go.Proofs.Ytaephdjmpmbfpaa
