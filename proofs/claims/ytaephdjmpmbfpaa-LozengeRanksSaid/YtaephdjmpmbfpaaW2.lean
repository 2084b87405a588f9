/- Contract: LozengeRanks. -/
import Derived.Test.YtaephdjmpmbfpaaW1
import Derived.Test.YtaephdjmpmbfpaaAlive
set_option linter.all false
namespace Go.Proofs.Ytaephdjmpmbfpaa
open Go.Lf Go.RowKit Go.Hp

theorem eqB (x y : Bool) (w : World) (K : Value → Prop) : binQ Try.prog w .neq 4 false (.bool x) (.bool y) K = genQ Try.prog w (semBin .neq 4 false (.bool x) (.bool y)) K := by kernel_rfl
theorem r_neqB {x y : Bool} {w : World} {K : Value → Prop} (h : K (.bool (x != y))) : binQ Try.prog w .neq 4 false (.bool x) (.bool y) K := by
  rw [eqB]
  refine ⟨.bool (x != y), fun _ _ => ?_, h⟩
  cases x <;> cases y <;> kernel_rfl

/-- The heap with a rank, or none. -/
def heapL (A B C rank : Int) : List (List Int) := if validB A B C = true ∧ 0 ≤ rank then (iterN A.toNat B.toNat C rank.toNat).getD [] else []
def heapE (A B C rank : Int) : Int := if validB A B C = true then if 0 ≤ rank ∧ (iterN A.toNat B.toNat C rank.toNat).isSome then 0 else 4 else 2

theorem rd_nil (w : World) : RdRows w nilS [] := ⟨none, 0, fun _ => undef, rfl, by simp, fun h => absurd h (by simp), fun i hi => absurd hi (by simp)⟩

theorem refHeap_res {A B C rank : Int} {w w' : World} {v : Value} {err : Int} (h : RefHeap A B C rank w w' v err) : (v = nilS ∧ heapL A B C rank = [] ∨ NewRows w w' v (heapL A B C rank)) ∧ err = heapE A B C rank := by
  unfold RefHeap at h
  unfold heapL heapE
  by_cases hv : validB A B C = true
  · rw [if_neg (by simp [hv])] at h
    by_cases h0 : rank < 0
    · rw [if_pos h0] at h
      rw [if_neg (by omega), if_pos hv, if_neg (by omega)]
      exact ⟨.inl ⟨h.1, rfl⟩, h.2⟩
    · rw [if_neg h0] at h
      rw [if_pos ⟨hv, by omega⟩, if_pos hv]
      cases hi : iterN A.toNat B.toNat C rank.toNat with
      | none =>
        rw [hi] at h
        rw [if_neg (by simp)]
        exact ⟨.inl ⟨h.1, rfl⟩, h.2⟩
      | some l =>
        rw [hi] at h
        rw [if_pos ⟨by omega, rfl⟩]
        exact ⟨.inr h.1, h.2⟩
  · have hv' : validB A B C = false := by simpa using hv
    rw [if_pos hv'] at h
    rw [if_neg (by simp [hv']), if_neg hv]
    exact ⟨.inl ⟨h.1, rfl⟩, h.2⟩

theorem res_rd {A B C rank : Int} {w w' : World} {v : Value} (h : v = nilS ∧ heapL A B C rank = [] ∨ NewRows w w' v (heapL A B C rank)) : RdRows w' v (heapL A B C rank) := by
  rcases h with ⟨rfl, h⟩ | h
  · rw [h]; exact rd_nil _
  · exact h.rd

set_option maxRecDepth 100000 in
theorem ranks_calls (A B C rank : Int) (v : Value) (h : List (List Int)) (w : World) (hr : RdR w v h) (hr0 : -9223372036854775808 ≤ rank) (hr1 : rank ≤ 9223372036854775807) :
    Calls Try.prog 6 #[boxV A B C, v, .int .i64 rank] w fun e w' => e = .returned (.bool true) ∧ Kp w w' := by
  refine lift6 ?_
  unfold S6
  refine r_box fun b w1 hbw hsz hb hk => ?_
  refine r_use fok30 (few_calls v h w1 (hr.kp hk)) rfl ?_
  rintro _ _ ⟨fb, rfl, hfew, rfl⟩
  refine ⟨_, rfl, ?_⟩
  cases fb with
  | false =>
    simp (disch := omega) only [r_ln, r_pick, r_pickT, r_pickF, r_condT, r_condF, r_gdTT, r_gdFF, r_gdTF, r_gdFT, r_gqTT, r_gqFF, r_gqTF, r_gqFT, r_not, r_lss, r_leq, r_gtr, r_geq, r_eql, r_neq, r_add, r_sub, r_min2, r_max2, r_min3, r_max3, r_fa, r_iaS, r_iaA, r_ex2a, r_ex2b, r_ex3a, r_ex3b, r_ex3c, r_nc, r_keepE, Nat.zero_add, Nat.add_zero, Nat.mul_one, Int.toNat_natCast, toNat_sub1, toNat_add1, decide_true, decide_false, Bool.not_true, Bool.not_false, if_true, if_false, Bool.false_eq_true, reduceCtorEq]
    refine r_use fok17 (alive_calls w1) rfl ?_
    rintro _ w2 ⟨rfl, k2⟩
    refine ⟨_, rfl, ?_⟩
    exact ⟨rfl, Kp.trans hk k2⟩
  | true =>
  have hf := hfew rfl
  have hrw := hf.rows (hr.kp hk)
  simp (disch := omega) only [r_ln, r_pick, r_pickT, r_pickF, r_condT, r_condF, r_gdTT, r_gdFF, r_gdTF, r_gdFT, r_gqTT, r_gqFF, r_gqTF, r_gqFT, r_not, r_lss, r_leq, r_gtr, r_geq, r_eql, r_neq, r_add, r_sub, r_min2, r_max2, r_min3, r_max3, r_fa, r_iaS, r_iaA, r_ex2a, r_ex2b, r_ex3a, r_ex3b, r_ex3c, r_nc, r_keepE, Nat.zero_add, Nat.add_zero, Nat.mul_one, Int.toNat_natCast, toNat_sub1, toNat_add1, decide_true, decide_false, Bool.not_true, Bool.not_false, if_true, if_false, Bool.false_eq_true, reduceCtorEq]
  refine r_use fok22 (copy_calls v h w1 hrw (by have := hf.1; omega) fun i hi => by have := hf.2 i hi; omega) rfl ?_
  rintro _ w2 ⟨v2, rfl, k2, hr2⟩
  refine ⟨_, rfl, ?_⟩
  have h2 := block_below hb k2
  have hv2 := hrw.below k2
  rw [r_ldRow (n := 3) h2 rfl]
  refine r_use fok31 (isf_calls A B C v2 h w2 hr2) rfl ?_
  rintro _ w3 ⟨rfl, k3⟩
  refine ⟨_, rfl, ?_⟩
  have h3 := block_below h2 k3
  simp only [isRes, r_ex2a, r_ex2b]
  rw [r_ldRow (n := 3) h3 rfl]
  refine r_use fok32 (refis_calls A B C v h w3 (hv2.below k3)) rfl ?_
  rintro _ w4 ⟨rfl, k4⟩
  refine ⟨_, rfl, ?_⟩
  have h4 := block_below h3 k4
  have k24 := Kp.trans k3 k4
  simp only [isRes, r_ex2a, r_ex2b]
  refine r_neqB ?_
  simp (disch := omega) only [r_ln, r_pick, r_pickT, r_pickF, r_condT, r_condF, r_gdTT, r_gdFF, r_gdTF, r_gdFT, r_gqTT, r_gqFF, r_gqTF, r_gqFT, r_not, r_lss, r_leq, r_gtr, r_geq, r_eql, r_neq, r_add, r_sub, r_min2, r_max2, r_min3, r_max3, r_fa, r_iaS, r_iaA, r_ex2a, r_ex2b, r_ex3a, r_ex3b, r_ex3c, r_nc, r_keepE, Nat.zero_add, Nat.add_zero, Nat.mul_one, Int.toNat_natCast, toNat_sub1, toNat_add1, decide_true, decide_false, Bool.not_true, Bool.not_false, if_true, if_false, Bool.false_eq_true, reduceCtorEq, bne_self_eq_false, r_ldRow (n := 3) h4 rfl]
  refine r_use fok18 (rank_calls A B C v2 h w4 (hr2.below k24)) rfl ?_
  rintro _ w5 ⟨rfl, k5⟩
  refine ⟨_, rfl, ?_⟩
  have h5 := block_below h4 k5
  simp (disch := omega) only [r_ln, r_pick, r_pickT, r_pickF, r_condT, r_condF, r_gdTT, r_gdFF, r_gdTF, r_gdFT, r_gqTT, r_gqFF, r_gqTF, r_gqFT, r_not, r_lss, r_leq, r_gtr, r_geq, r_eql, r_neq, r_add, r_sub, r_min2, r_max2, r_min3, r_max3, r_fa, r_iaS, r_iaA, r_ex2a, r_ex2b, r_ex3a, r_ex3b, r_ex3c, r_nc, r_keepE, Nat.zero_add, Nat.add_zero, Nat.mul_one, Int.toNat_natCast, toNat_sub1, toNat_add1, decide_true, decide_false, Bool.not_true, Bool.not_false, if_true, if_false, Bool.false_eq_true, reduceCtorEq, r_ldRow (n := 3) h5 rfl]
  refine r_use fok33 (refrank_calls A B C v h w5 (hv2.below (Kp.trans k24 k5))) rfl ?_
  rintro _ w6 ⟨rfl, k6⟩
  refine ⟨_, rfl, ?_⟩
  have h6 := block_below h5 k6
  have k26 := Kp.trans k24 (Kp.trans k5 k6)
  simp (disch := omega) only [r_ln, r_pick, r_pickT, r_pickF, r_condT, r_condF, r_gdTT, r_gdFF, r_gdTF, r_gdFT, r_gqTT, r_gqFF, r_gqTF, r_gqFT, r_not, r_lss, r_leq, r_gtr, r_geq, r_eql, r_neq, r_add, r_sub, r_min2, r_max2, r_min3, r_max3, r_fa, r_iaS, r_iaA, r_ex2a, r_ex2b, r_ex3a, r_ex3b, r_ex3c, r_nc, r_keepE, Nat.zero_add, Nat.add_zero, Nat.mul_one, Int.toNat_natCast, toNat_sub1, toNat_add1, decide_true, decide_false, Bool.not_true, Bool.not_false, if_true, if_false, Bool.false_eq_true, reduceCtorEq]
  refine r_use fok20 (same_calls v2 v h h w6 (hr2.below k26) (hv2.below k26)) rfl ?_
  rintro _ w7 ⟨rfl, k7⟩
  refine ⟨_, rfl, ?_⟩
  have h7 := block_below h6 k7
  simp (disch := omega) only [r_ln, r_pick, r_pickT, r_pickF, r_condT, r_condF, r_gdTT, r_gdFF, r_gdTF, r_gdFT, r_gqTT, r_gqFF, r_gqTF, r_gqFT, r_not, r_lss, r_leq, r_gtr, r_geq, r_eql, r_neq, r_add, r_sub, r_min2, r_max2, r_min3, r_max3, r_fa, r_iaS, r_iaA, r_ex2a, r_ex2b, r_ex3a, r_ex3b, r_ex3c, r_nc, r_keepE, Nat.zero_add, Nat.add_zero, Nat.mul_one, Int.toNat_natCast, toNat_sub1, toNat_add1, decide_true, decide_false, Bool.not_true, Bool.not_false, if_true, if_false, Bool.false_eq_true, reduceCtorEq, r_ldRow (n := 3) h7 rfl]
  refine r_use fok34 (refheap_calls A B C rank w7 hr1) rfl ?_
  rintro _ w8 ⟨v8, err8, rfl, k8, hres8⟩
  refine ⟨_, rfl, ?_⟩
  have h8 := block_below h7 k8
  obtain ⟨hv8, rfl⟩ := refHeap_res hres8
  have hrd8 := res_rd hv8
  simp only [r_ex2a, r_ex2b]
  have k18 : Kp w w8 := Kp.trans hk (Kp.trans k2 (Kp.trans k26 (Kp.trans k7 k8)))
  refine ⟨fun t15 wr => ∃ i : Nat, i ≤ 2 ∧ t15 = .int .i64 i ∧ Kp w8 wr, fun t15 _ => 2 - (intOf t15).toNat, ⟨0, by omega, rfl, Kp.refl _⟩, ?_⟩
  rintro _ _ wr ⟨i, hi, rfl, hkr⟩
  by_cases hlt : i < 2
  case neg =>
    have hlt' : ¬ (i : Int) < 2 := by omega
    simp (disch := omega) only [r_ln, r_pick, r_pickT, r_pickF, r_condT, r_condF, r_gdTT, r_gdFF, r_gdTF, r_gdFT, r_gqTT, r_gqFF, r_gqTF, r_gqFT, r_not, r_lss, r_leq, r_gtr, r_geq, r_eql, r_neq, r_add, r_sub, r_min2, r_max2, r_min3, r_max3, r_fa, r_iaS, r_iaA, r_ex2a, r_ex2b, r_ex3a, r_ex3b, r_ex3c, r_nc, r_keepE, Nat.zero_add, Nat.add_zero, Nat.mul_one, Int.toNat_natCast, toNat_sub1, toNat_add1, decide_true, decide_false, Bool.not_true, Bool.not_false, if_true, if_false, Bool.false_eq_true, reduceCtorEq, hlt']
    refine r_use fok17 (alive_calls wr) rfl ?_
    rintro _ w9 ⟨rfl, k9⟩
    refine ⟨_, rfl, ?_⟩
    exact ⟨rfl, Kp.trans k18 (Kp.trans hkr k9)⟩
  have hlt' : (i : Int) < 2 := by omega
  simp (disch := omega) only [r_ln, r_pick, r_pickT, r_pickF, r_condT, r_condF, r_gdTT, r_gdFF, r_gdTF, r_gdFT, r_gqTT, r_gqFF, r_gqTF, r_gqFT, r_not, r_lss, r_leq, r_gtr, r_geq, r_eql, r_neq, r_add, r_sub, r_min2, r_max2, r_min3, r_max3, r_fa, r_iaS, r_iaA, r_ex2a, r_ex2b, r_ex3a, r_ex3b, r_ex3c, r_nc, r_keepE, Nat.zero_add, Nat.add_zero, Nat.mul_one, Int.toNat_natCast, toNat_sub1, toNat_add1, decide_true, decide_false, Bool.not_true, Bool.not_false, if_true, if_false, Bool.false_eq_true, reduceCtorEq, hlt', r_ldRow (n := 3) (block_below h8 hkr) rfl]
  refine r_use fok19 (heapf_calls A B C rank wr hr0 hr1) rfl ?_
  rintro _ w9 ⟨v9, err9, rfl, k9, hres9⟩
  refine ⟨_, rfl, ?_⟩
  obtain ⟨hv9, rfl⟩ := refHeap_res hres9
  simp (disch := omega) only [r_ln, r_pick, r_pickT, r_pickF, r_condT, r_condF, r_gdTT, r_gdFF, r_gdTF, r_gdFT, r_gqTT, r_gqFF, r_gqTF, r_gqFT, r_not, r_lss, r_leq, r_gtr, r_geq, r_eql, r_neq, r_add, r_sub, r_min2, r_max2, r_min3, r_max3, r_fa, r_iaS, r_iaA, r_ex2a, r_ex2b, r_ex3a, r_ex3b, r_ex3c, r_nc, r_keepE, Nat.zero_add, Nat.add_zero, Nat.mul_one, Int.toNat_natCast, toNat_sub1, toNat_add1, decide_true, decide_false, Bool.not_true, Bool.not_false, if_true, if_false, Bool.false_eq_true, reduceCtorEq]
  refine r_use fok20 (same_calls v9 v8 _ _ w9 (res_rd hv9) (hrd8.below (Kp.trans hkr k9))) rfl ?_
  rintro _ w10 ⟨rfl, k10⟩
  refine ⟨_, rfl, ?_⟩
  simp (disch := omega) only [r_ln, r_pick, r_pickT, r_pickF, r_condT, r_condF, r_gdTT, r_gdFF, r_gdTF, r_gdFT, r_gqTT, r_gqFF, r_gqTF, r_gqFT, r_not, r_lss, r_leq, r_gtr, r_geq, r_eql, r_neq, r_add, r_sub, r_min2, r_max2, r_min3, r_max3, r_fa, r_iaS, r_iaA, r_ex2a, r_ex2b, r_ex3a, r_ex3b, r_ex3c, r_nc, r_keepE, Nat.zero_add, Nat.add_zero, Nat.mul_one, Int.toNat_natCast, toNat_sub1, toNat_add1, decide_true, decide_false, Bool.not_true, Bool.not_false, if_true, if_false, Bool.false_eq_true, reduceCtorEq]
  have hk10 : Kp w8 w10 := Kp.trans hkr (Kp.trans k9 k10)
  have hfin : ∀ w', Kp w8 w' → (∃ j : Nat, j ≤ 2 ∧ Value.int .i64 ((i : Int) + 1) = .int .i64 j ∧ Kp w8 w') ∧ 2 - (intOf (Value.int .i64 ((i : Int) + 1))).toNat < 2 - (intOf (Value.int .i64 (i : Int))).toNat := fun w' hk' =>
    ⟨⟨i + 1, by omega, by go_num, hk'⟩, by simp only [intOf]; omega⟩
  rcases hv9 with ⟨rfl, hnil⟩ | ⟨g, bs, ho, hg, hbs⟩
  · refine ⟨fun t18 wq => t18 = .int .i64 0 ∧ wq = w10, fun _ _ => 0, ⟨rfl, rfl⟩, ?_⟩
    rintro _ _ _ ⟨rfl, rfl⟩
    have h00 : ¬ (0 : Int) < ((0 : Nat) : Int) := by omega
    simp (disch := omega) only [r_ln, r_pick, r_pickT, r_pickF, r_condT, r_condF, r_gdTT, r_gdFF, r_gdTF, r_gdFT, r_gqTT, r_gqFF, r_gqTF, r_gqFT, r_not, r_lss, r_leq, r_gtr, r_geq, r_eql, r_neq, r_add, r_sub, r_min2, r_max2, r_min3, r_max3, r_fa, r_iaS, r_iaA, r_ex2a, r_ex2b, r_ex3a, r_ex3b, r_ex3c, r_nc, r_keepE, Nat.zero_add, Nat.add_zero, Nat.mul_one, Int.toNat_natCast, toNat_sub1, toNat_add1, decide_true, decide_false, Bool.not_true, Bool.not_false, if_true, if_false, Bool.false_eq_true, reduceCtorEq, h00]
    exact hfin _ hk10
  generalize heapL A B C rank = L at *
  have hown := ho.kp k10
  refine ⟨fun t18 wq => ∃ (q : Nat) (L' : List (List Int)), q ≤ L.length ∧ t18 = .int .i64 q ∧ OwnRows wq v9 g bs L' ∧ L'.length = L.length ∧ (∀ k, (L'.getD k []).length = (L.getD k []).length) ∧ Chg (fun k => ∃ i, i < L.length ∧ k = bs i) w10 wq, fun t18 _ => L.length - (intOf t18).toNat,
    ⟨0, L, by omega, rfl, hown, rfl, fun _ => rfl, Chg.refl _ _⟩, ?_⟩
  rintro _ _ wq ⟨q, L', hq, rfl, hoq, hll, hlr, hcq⟩
  have hkq : Kp w8 wq := Kp.of_chg hk10 hcq fun k ⟨i, hi, e⟩ => by have := hbs i hi; have := hkr.size; omega
  obtain ⟨cap, cur, hv9, _, _⟩ := hoq.outer
  by_cases hql : q < L.length
  case neg =>
    have hql' : ¬ (q : Int) < (L.length : Int) := by omega
    rw [hv9, hll]
    simp (disch := omega) only [r_ln, r_pick, r_pickT, r_pickF, r_condT, r_condF, r_gdTT, r_gdFF, r_gdTF, r_gdFT, r_gqTT, r_gqFF, r_gqTF, r_gqFT, r_not, r_lss, r_leq, r_gtr, r_geq, r_eql, r_neq, r_add, r_sub, r_min2, r_max2, r_min3, r_max3, r_fa, r_iaS, r_iaA, r_ex2a, r_ex2b, r_ex3a, r_ex3b, r_ex3c, r_nc, r_keepE, Nat.zero_add, Nat.add_zero, Nat.mul_one, Int.toNat_natCast, toNat_sub1, toNat_add1, decide_true, decide_false, Bool.not_true, Bool.not_false, if_true, if_false, Bool.false_eq_true, reduceCtorEq, hql']
    exact hfin _ hkq
  have hql' : (q : Int) < (L.length : Int) := by omega
  have hsmall := hoq.small.1
  rw [hv9, hll]
  simp (disch := omega) only [r_ln, r_pick, r_pickT, r_pickF, r_condT, r_condF, r_gdTT, r_gdFF, r_gdTF, r_gdFT, r_gqTT, r_gqFF, r_gqTF, r_gqFT, r_not, r_lss, r_leq, r_gtr, r_geq, r_eql, r_neq, r_add, r_sub, r_min2, r_max2, r_min3, r_max3, r_fa, r_iaS, r_iaA, r_ex2a, r_ex2b, r_ex3a, r_ex3b, r_ex3c, r_nc, r_keepE, Nat.zero_add, Nat.add_zero, Nat.mul_one, Int.toNat_natCast, toNat_sub1, toNat_add1, decide_true, decide_false, Bool.not_true, Bool.not_false, if_true, if_false, Bool.false_eq_true, reduceCtorEq, hql']
  rw [hll] at hv9
  refine ⟨fun t19 wp => ∃ (j : Nat) (L2 : List (List Int)), j ≤ (L.getD q []).length ∧ t19 = .int .i64 j ∧ OwnRows wp v9 g bs L2 ∧ L2.length = L.length ∧ (∀ k, (L2.getD k []).length = (L.getD k []).length) ∧ Chg (fun k => ∃ i, i < L.length ∧ k = bs i) w10 wp, fun t19 _ => (L.getD q []).length - (intOf t19).toNat,
    ⟨0, L', by omega, rfl, hoq, hll, hlr, hcq⟩, ?_⟩
  rintro _ _ wp ⟨j, L2, hj, rfl, hop, hl2, hlr2, hcp⟩
  have hop' := hop
  obtain ⟨cap2, c2, hv92, hgc, hslot⟩ := hop.slot (i := q) (by omega)
  rw [hl2, hv9] at hv92
  cases hv92
  rw [hlr2] at hgc hslot
  by_cases hjl : j < (L.getD q []).length
  case neg =>
    have hjl' : ¬ (j : Int) < ((L.getD q []).length : Int) := by omega
    simp (disch := omega) only [r_ln, r_pick, r_pickT, r_pickF, r_condT, r_condF, r_gdTT, r_gdFF, r_gdTF, r_gdFT, r_gqTT, r_gqFF, r_gqTF, r_gqFT, r_not, r_lss, r_leq, r_gtr, r_geq, r_eql, r_neq, r_add, r_sub, r_min2, r_max2, r_min3, r_max3, r_fa, r_iaS, r_iaA, r_ex2a, r_ex2b, r_ex3a, r_ex3b, r_ex3c, r_nc, r_keepE, Nat.zero_add, Nat.add_zero, Nat.mul_one, Int.toNat_natCast, toNat_sub1, toNat_add1, decide_true, decide_false, Bool.not_true, Bool.not_false, if_true, if_false, Bool.false_eq_true, reduceCtorEq, r_ld hgc, hjl']
    rw [hv9] at hop'
    exact ⟨⟨q + 1, L2, by omega, by go_num, hv9 ▸ hop', hl2, hlr2, hcp⟩, by simp only [intOf]; omega⟩
  have hjl' : (j : Int) < ((L.getD q []).length : Int) := by omega
  have hsm2 := hop'.small.2 q (by omega)
  rw [hlr2] at hsm2
  obtain ⟨hx, hfz⟩ := hslot j hjl
  simp (disch := omega) only [r_ln, r_pick, r_pickT, r_pickF, r_condT, r_condF, r_gdTT, r_gdFF, r_gdTF, r_gdFT, r_gqTT, r_gqFF, r_gqTF, r_gqFT, r_not, r_lss, r_leq, r_gtr, r_geq, r_eql, r_neq, r_add, r_sub, r_min2, r_max2, r_min3, r_max3, r_fa, r_iaS, r_iaA, r_ex2a, r_ex2b, r_ex3a, r_ex3b, r_ex3c, r_nc, r_keepE, Nat.zero_add, Nat.add_zero, Nat.mul_one, Int.toNat_natCast, toNat_sub1, toNat_add1, decide_true, decide_false, Bool.not_true, Bool.not_false, if_true, if_false, Bool.false_eq_true, reduceCtorEq, r_ld hgc, hjl']
  rw [st3 hx hfz]
  have hset := hop'.set (i := q) (j := j) (by omega) (by rw [hlr2]; exact hjl) 9
  exact ⟨⟨j + 1, put2 L2 q j 9, by omega, by go_num, hset, by rw [put2_length]; exact hl2, fun k => by rw [put2_len _ _ _ _ _ (by omega)]; exact hlr2 k, hcp.trans (Chg.setCell _ _ ⟨q, hql, rfl⟩)⟩, by simp only [intOf]; omega⟩

end Go.Proofs.Ytaephdjmpmbfpaa
