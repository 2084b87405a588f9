/- Contract: LozengeOrder. -/
import Derived.Test.YtaephdjmpmbfpaaP3
set_option linter.all false
namespace Go.Proofs.Ytaephdjmpmbfpaa
open Go.Lf Go.RowKit Go.Hp

/-- What a place in the list of heaps gives. -/
theorem at_place {A B : Nat} {C : Int} {k : Nat} {h : List (List Int)} (hA : 1 ≤ A ∧ A ≤ 4) (hB : 1 ≤ B ∧ B ≤ 4) (hC : 1 ≤ C ∧ C ≤ 4) (hk : (heaps A B C)[k]? = some h) : heapErr A B C h = 0 ∧ rankM A B C h A = k := by
  refine ⟨?_, rank_heaps hB.2 hk⟩
  unfold heapErr
  rw [if_pos ⟨by simp [validB]; omega, (heapOk_mem (by omega) hB.2).2 (List.mem_of_getElem? hk)⟩]

theorem res_at {A B : Nat} {C : Int} {k : Nat} {h : List (List Int)} {w w' : World} {v : Value} {err : Int} (hA : 1 ≤ A ∧ A ≤ 4) (hB : 1 ≤ B ∧ B ≤ 4) (hC : 1 ≤ C ∧ C ≤ 4) (hk : (heaps A B C)[k]? = some h) (hr : RefHeap A B C k w w' v err) : NewRows w w' v h ∧ err = 0 := by
  unfold RefHeap at hr
  rw [if_neg (by simp [validB]; omega), if_neg (by omega)] at hr
  simp only [Int.toNat_natCast] at hr
  rw [iterN_heaps (by omega) hB.2 (by omega), hk] at hr
  exact hr

theorem res_end {A B : Nat} {C : Int} {k : Nat} {w w' : World} {v : Value} {err : Int} (hA : 1 ≤ A ∧ A ≤ 4) (hB : 1 ≤ B ∧ B ≤ 4) (hC : 1 ≤ C ∧ C ≤ 4) (hk : (heaps A B C).length ≤ k) (hr : RefHeap A B C k w w' v err) : err = 4 := by
  unfold RefHeap at hr
  rw [if_neg (by simp [validB]; omega), if_neg (by omega)] at hr
  simp only [Int.toNat_natCast] at hr
  rw [iterN_heaps (by omega) hB.2 (by omega), List.getElem?_eq_none hk] at hr
  exact hr.2

theorem heaps_count {A B : Nat} {C : Int} (hA : 1 ≤ A ∧ A ≤ 4) (hB : 1 ≤ B ∧ B ≤ 4) (hC : 1 ≤ C ∧ C ≤ 4) : countN A B C = ((heaps A B C).length : Nat) ∧ boxErr A B C = 0 := by
  have hv : validB A B C = true := by simp [validB]; omega
  simp only [countN, boxErr, hv, if_true, Int.toNat_natCast]
  exact ⟨ways_length _ _ _, trivial⟩

theorem heaps_small {A B : Nat} {C : Int} (hA : A ≤ 4) (hB : B ≤ 4) (hC : 0 ≤ C ∧ C ≤ 4) : (heaps A B C).length ≤ 152587890625 := by
  have := ways_le (B := B) (n := A) (ab := topRow B C) hB hA fun k => (topRow_range hC.1 hC.2 k).2
  rw [ways_length] at this
  unfold heaps
  omega

theorem next_place {A B : Nat} {C : Int} {k : Nat} {h : List (List Int)} (hB0 : 0 < B) (hB : B ≤ 4) (hC : 0 ≤ C) (hk : (heaps A B C)[k]? = some h) : nextM A B C h = (heaps A B C)[k + 1]? := by
  have h1 := iterN_heaps (A := A) hB0 hB hC k
  have h2 := iterN_heaps (A := A) hB0 hB hC (k + 1)
  rw [iterN, h1, hk] at h2
  exact h2

theorem heaps_nonneg {A B : Nat} {C : Int} {k : Nat} {h : List (List Int)} (hB0 : 0 < B) (hB : B ≤ 4) (hC : 0 ≤ C) (hk : (heaps A B C)[k]? = some h) : Sized A B h ∧ NonNeg A B h := by
  rw [← iterN_heaps hB0 hB hC] at hk
  exact iterN_keeps hB0 k h hk

set_option maxRecDepth 100000 in
theorem order_calls (a b c r : Nat) (w : World) (ha : a ≤ 255) (hb : b ≤ 255) (hc : c ≤ 255) (hr : r ≤ 4294967295) :
    Calls Try.prog 4 #[.int .u8 a, .int .u8 b, .int .u8 c, .int .u32 r] w fun e w' => e = .returned (.bool true) ∧ Kp w w' := by
  refine lift4 ?_
  unfold S4
  refine r_use fok12 (boxed_calls a b c r w ha hb hc hr) rfl ?_
  rintro _ w1 ⟨v, rfl, k1, hnew⟩
  refine ⟨_, rfl, ?_⟩
  have hget := heapOf_get a b c r
  have hlt := rankOf_lt a b c r
  have hA := side_range a
  have hB := side_range b
  have hC := side_range c
  generalize side a = A at *
  generalize side b = B at *
  generalize side c = C at *
  generalize heapOf a b c r = h at *
  generalize rankOf a b c r = k at *
  have hC' : 1 ≤ (C : Int) ∧ (C : Int) ≤ 4 := by omega
  obtain ⟨he, hrk⟩ := at_place hA hB hC' hget
  obtain ⟨hcnt, hbe⟩ := heaps_count hA hB hC'
  have hsm := heaps_small (A := A) (B := B) (C := C) (by omega) (by omega) (by omega)
  obtain ⟨hsz, hnn⟩ := heaps_nonneg (by omega) hB.2 (by omega) hget
  simp only [r_ex2a, r_ex2b]
  refine r_box fun b9 w2 e9 s9 h9 k2 => ?_
  refine r_stAll (n := 3) (ty := 25) (by kernel_rfl) rfl (by intro u hu; simp [Value.cells] at hu; rcases hu with rfl | rfl | rfl <;> rfl) h9 rfl fun w3 c3 s3 h3 => ?_
  have k3 : Kp w1 w3 := Kp.of_chg k2 c3 fun i e => by omega
  have hr3 := hnew.rd.below k3
  rw [r_ldRow (n := 3) h3 rfl]
  refine r_use fok18 (rank_calls A B C v h w3 hr3) rfl ?_
  rintro _ w4 ⟨rfl, k4⟩
  refine ⟨_, rfl, ?_⟩
  have h4 := block_below h3 k4
  rw [he]
  simp only [r_ex2a, r_ex2b, if_true, Int.toNat_natCast, hrk]
  rw [r_ldRow (n := 3) h4 rfl]
  refine r_use fok19 (heapf_calls A B C k w4 (by omega) (by omega)) rfl ?_
  rintro _ w5 ⟨v5, err5, rfl, k5, hres5⟩
  refine ⟨_, rfl, ?_⟩
  obtain ⟨hn5, rfl⟩ := res_at hA hB hC' hget hres5
  have h5 := block_below h4 k5
  have hr5 := hr3.below (Kp.trans k4 k5)
  simp (disch := omega) only [r_ln, r_pick, r_pickT, r_pickF, r_condT, r_condF, r_gdTT, r_gdFF, r_gdTF, r_gdFT, r_gqTT, r_gqFF, r_gqTF, r_gqFT, r_not, r_lss, r_leq, r_gtr, r_geq, r_eql, r_neq, r_add, r_sub, r_min2, r_max2, r_min3, r_max3, r_fa, r_iaS, r_iaA, r_ex2a, r_ex2b, r_ex3a, r_ex3b, r_ex3c, r_nc, r_keepE, Nat.zero_add, Nat.add_zero, Nat.mul_one, Int.toNat_natCast, toNat_sub1, toNat_add1, decide_true, decide_false, Bool.not_true, Bool.not_false, if_true, if_false, Bool.false_eq_true, reduceCtorEq]
  refine r_use fok20 (same_calls v5 v h h w5 hn5.rd hr5) rfl ?_
  rintro _ w6 ⟨rfl, k6⟩
  refine ⟨_, rfl, ?_⟩
  have h6 := block_below h5 k6
  simp (disch := omega) only [r_ln, r_pick, r_pickT, r_pickF, r_condT, r_condF, r_gdTT, r_gdFF, r_gdTF, r_gdFT, r_gqTT, r_gqFF, r_gqTF, r_gqFT, r_not, r_lss, r_leq, r_gtr, r_geq, r_eql, r_neq, r_add, r_sub, r_min2, r_max2, r_min3, r_max3, r_fa, r_iaS, r_iaA, r_ex2a, r_ex2b, r_ex3a, r_ex3b, r_ex3c, r_nc, r_keepE, Nat.zero_add, Nat.add_zero, Nat.mul_one, Int.toNat_natCast, toNat_sub1, toNat_add1, decide_true, decide_false, Bool.not_true, Bool.not_false, if_true, if_false, Bool.false_eq_true, reduceCtorEq, r_ldRow (n := 3) h6 rfl]
  refine r_use fok21 (countf_calls A B C w6) rfl ?_
  rintro _ w7 ⟨rfl, k7⟩
  refine ⟨_, rfl, ?_⟩
  have h7 := block_below h6 k7
  rw [hcnt, hbe]
  simp (disch := omega) only [r_ln, r_pick, r_pickT, r_pickF, r_condT, r_condF, r_gdTT, r_gdFF, r_gdTF, r_gdFT, r_gqTT, r_gqFF, r_gqTF, r_gqFT, r_not, r_lss, r_leq, r_gtr, r_geq, r_eql, r_neq, r_add, r_sub, r_min2, r_max2, r_min3, r_max3, r_fa, r_iaS, r_iaA, r_ex2a, r_ex2b, r_ex3a, r_ex3b, r_ex3c, r_nc, r_keepE, Nat.zero_add, Nat.add_zero, Nat.mul_one, Int.toNat_natCast, toNat_sub1, toNat_add1, decide_true, decide_false, Bool.not_true, Bool.not_false, if_true, if_false, Bool.false_eq_true, reduceCtorEq, r_ldRow (n := 3) h7 rfl]
  refine r_use fok19 (heapf_calls A B C _ w7 (by omega) (by omega)) rfl ?_
  rintro _ w8 ⟨v8, err8, rfl, k8, hres8⟩
  refine ⟨_, rfl, ?_⟩
  have := res_end hA hB hC' (Nat.le_refl _) hres8
  subst this
  have h8 := block_below h7 k8
  have n0 : ¬ ((k : Int) < 0) := by omega
  have n1 : ¬ (((heaps A B C).length : Nat) : Int) ≤ (k : Int) := by omega
  simp (disch := omega) only [r_ln, r_pick, r_pickT, r_pickF, r_condT, r_condF, r_gdTT, r_gdFF, r_gdTF, r_gdFT, r_gqTT, r_gqFF, r_gqTF, r_gqFT, r_not, r_lss, r_leq, r_gtr, r_geq, r_eql, r_neq, r_add, r_sub, r_min2, r_max2, r_min3, r_max3, r_fa, r_iaS, r_iaA, r_ex2a, r_ex2b, r_ex3a, r_ex3b, r_ex3c, r_nc, r_keepE, Nat.zero_add, Nat.add_zero, Nat.mul_one, Int.toNat_natCast, toNat_sub1, toNat_add1, decide_true, decide_false, Bool.not_true, Bool.not_false, if_true, if_false, Bool.false_eq_true, reduceCtorEq, n0, n1]
  have hr8 := hr5.below (Kp.trans k6 (Kp.trans k7 k8))
  refine r_use fok22 (copyN_calls v h w8 hr8 (by rw [hsz.1]; omega) (by rw [hsz.1]; omega) fun i hi => by rw [hsz.2 i (by rw [← hsz.1]; exact hi)]; omega) rfl ?_
  rintro _ w9 ⟨v9, rfl, k9, hn9⟩
  refine ⟨_, rfl, ?_⟩
  have h9' := block_below h8 k9
  rw [r_ldRow (n := 3) h9' rfl]
  obtain ⟨g, bs, ho, hg, hbs⟩ := hn9
  refine r_use fok23 (next_calls A B C v9 g bs h w9 (by omega) (by omega) (by omega) (by omega) ho hsz hnn) rfl ?_
  rintro _ w10 ⟨rfl, ho10, hc10⟩
  refine ⟨_, rfl, ?_⟩
  have hb8 := block_lt h8
  have h10 := hc10.at h9' fun ⟨i, hi, e⟩ => by have := hbs i hi; omega
  have k19 : Kp w w9 := Kp.trans k1 (Kp.trans k3 (Kp.trans (Kp.trans k4 k5) (Kp.trans k6 (Kp.trans k7 (Kp.trans k8 k9)))))
  have hsz8 : w.heap.size ≤ w8.heap.size := (Kp.trans k1 (Kp.trans k3 (Kp.trans (Kp.trans k4 k5) (Kp.trans k6 (Kp.trans k7 k8))))).size
  have k110 : Kp w w10 := Kp.of_chg k19 hc10 fun i ⟨q, hq, e⟩ => by have := hbs q hq; omega
  rw [next_place (by omega) hB.2 (by omega) hget] at ho10 ⊢
  cases hnx : (heaps A B C)[k + 1]? with
  | none =>
    have hl := List.getElem?_eq_none_iff.1 hnx
    have e1 : (k : Int) = ((heaps A B C).length : Nat) - 1 := by omega
    simp (disch := omega) only [r_ln, r_pick, r_pickT, r_pickF, r_condT, r_condF, r_gdTT, r_gdFF, r_gdTF, r_gdFT, r_gqTT, r_gqFF, r_gqTF, r_gqFT, r_not, r_lss, r_leq, r_gtr, r_geq, r_eql, r_neq, r_add, r_sub, r_min2, r_max2, r_min3, r_max3, r_fa, r_iaS, r_iaA, r_ex2a, r_ex2b, r_ex3a, r_ex3b, r_ex3c, r_nc, r_keepE, Nat.zero_add, Nat.add_zero, Nat.mul_one, Int.toNat_natCast, toNat_sub1, toNat_add1, decide_true, decide_false, Bool.not_true, Bool.not_false, if_true, if_false, Bool.false_eq_true, reduceCtorEq, Option.isSome_none, ← e1]
    refine r_use fok17 (alive_calls w10) rfl ?_
    rintro _ w11 ⟨rfl, k11⟩
    refine ⟨_, rfl, ?_⟩
    simp (disch := omega) only [r_ln, r_pick, r_pickT, r_pickF, r_condT, r_condF, r_gdTT, r_gdFF, r_gdTF, r_gdFT, r_gqTT, r_gqFF, r_gqTF, r_gqFT, r_not, r_lss, r_leq, r_gtr, r_geq, r_eql, r_neq, r_add, r_sub, r_min2, r_max2, r_min3, r_max3, r_fa, r_iaS, r_iaA, r_ex2a, r_ex2b, r_ex3a, r_ex3b, r_ex3c, r_nc, r_keepE, Nat.zero_add, Nat.add_zero, Nat.mul_one, Int.toNat_natCast, toNat_sub1, toNat_add1, decide_true, decide_false, Bool.not_true, Bool.not_false, if_true, if_false, Bool.false_eq_true, reduceCtorEq]
    exact ⟨trivial, Kp.trans k110 k11⟩
  | some h' =>
    rw [hnx] at ho10
    obtain ⟨he', hrk'⟩ := at_place hA hB hC' hnx
    simp (disch := omega) only [r_ln, r_pick, r_pickT, r_pickF, r_condT, r_condF, r_gdTT, r_gdFF, r_gdTF, r_gdFT, r_gqTT, r_gqFF, r_gqTF, r_gqFT, r_not, r_lss, r_leq, r_gtr, r_geq, r_eql, r_neq, r_add, r_sub, r_min2, r_max2, r_min3, r_max3, r_fa, r_iaS, r_iaA, r_ex2a, r_ex2b, r_ex3a, r_ex3b, r_ex3c, r_nc, r_keepE, Nat.zero_add, Nat.add_zero, Nat.mul_one, Int.toNat_natCast, toNat_sub1, toNat_add1, decide_true, decide_false, Bool.not_true, Bool.not_false, if_true, if_false, Bool.false_eq_true, reduceCtorEq, Option.isSome_some, r_ldRow (n := 3) h10 rfl]
    refine r_use fok18 (rank_calls A B C v9 h' w10 ho10.rd) rfl ?_
    rintro _ w11 ⟨rfl, k11⟩
    refine ⟨_, rfl, ?_⟩
    rw [he']
    have e1 : ((k + 1 : Nat) : Int) = (k : Int) + 1 := by omega
    simp (disch := omega) only [r_ln, r_pick, r_pickT, r_pickF, r_condT, r_condF, r_gdTT, r_gdFF, r_gdTF, r_gdFT, r_gqTT, r_gqFF, r_gqTF, r_gqFT, r_not, r_lss, r_leq, r_gtr, r_geq, r_eql, r_neq, r_add, r_sub, r_min2, r_max2, r_min3, r_max3, r_fa, r_iaS, r_iaA, r_ex2a, r_ex2b, r_ex3a, r_ex3b, r_ex3c, r_nc, r_keepE, Nat.zero_add, Nat.add_zero, Nat.mul_one, Int.toNat_natCast, toNat_sub1, toNat_add1, decide_true, decide_false, Bool.not_true, Bool.not_false, if_true, if_false, Bool.false_eq_true, reduceCtorEq, hrk', e1]
    refine r_use fok17 (alive_calls w11) rfl ?_
    rintro _ w12 ⟨rfl, k12⟩
    refine ⟨_, rfl, ?_⟩
    simp (disch := omega) only [r_ln, r_pick, r_pickT, r_pickF, r_condT, r_condF, r_gdTT, r_gdFF, r_gdTF, r_gdFT, r_gqTT, r_gqFF, r_gqTF, r_gqFT, r_not, r_lss, r_leq, r_gtr, r_geq, r_eql, r_neq, r_add, r_sub, r_min2, r_max2, r_min3, r_max3, r_fa, r_iaS, r_iaA, r_ex2a, r_ex2b, r_ex3a, r_ex3b, r_ex3c, r_nc, r_keepE, Nat.zero_add, Nat.add_zero, Nat.mul_one, Int.toNat_natCast, toNat_sub1, toNat_add1, decide_true, decide_false, Bool.not_true, Bool.not_false, if_true, if_false, Bool.false_eq_true, reduceCtorEq]
    exact ⟨trivial, Kp.trans k110 (Kp.trans k11 k12)⟩

end Go.Proofs.Ytaephdjmpmbfpaa
