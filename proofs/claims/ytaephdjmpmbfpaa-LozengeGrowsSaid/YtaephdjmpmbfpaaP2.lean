/- Contracts: Copy, Same, Volume of the specification. -/
import Derived.Test.YtaephdjmpmbfpaaP1
set_option linter.all false
namespace Go.Proofs.Ytaephdjmpmbfpaa
open Go.Lf Go.RowKit Go.Hp

theorem intCells_get {l : List Int} {j : Nat} (h : j < l.length) : (intCells l)[j]? = some (.int .i64 (l.getD j 0)) := by
  simp [intCells, h]

set_option maxRecDepth 100000 in
/-- Copy of rows that are not empty: new rows. -/
theorem copyN_calls (v : Value) (h : List (List Int)) (w : World) (hr : RdRows w v h) (h0 : 0 < h.length) (hl : h.length ≤ 1000) (hrow : ∀ i, i < h.length → 0 < (h.getD i []).length ∧ (h.getD i []).length ≤ 1000) :
    Calls Try.prog 22 #[v] w fun e w' => ∃ v', e = .returned v' ∧ Kp w w' ∧ NewRows w w' v' h := by
  obtain ⟨va, vc, rfl, _⟩ := hr.len
  refine lift22 ?_
  unfold S22
  refine ⟨fun t3 t4 wr => ∃ (i : Nat) (bs cs : Nat → Nat), i ≤ h.length ∧ t4 = .int .i64 i ∧ Kp w wr ∧ FRows w.heap.size wr t3 bs cs (h.take i), fun _ t4 _ => h.length - (intOf t4).toNat,
    ⟨0, fun _ => 0, fun _ => 0, by omega, rfl, Kp.refl _, by simpa using FRows.nil _ _ _ _⟩, ?_⟩
  rintro _ t3 _ wr ⟨i, bs, cs, hi, rfl, hk, hF⟩
  by_cases hlt : i < h.length
  case neg =>
    have hlt' : ¬ (i : Int) < (h.length : Int) := by omega
    have e : i = h.length := by omega
    subst e
    simp (disch := omega) only [r_ln, r_pick, r_pickT, r_pickF, r_condT, r_condF, r_gdTT, r_gdFF, r_gdTF, r_gdFT, r_gqTT, r_gqFF, r_gqTF, r_gqFT, r_not, r_lss, r_leq, r_gtr, r_geq, r_eql, r_neq, r_add, r_sub, r_min2, r_max2, r_min3, r_max3, r_fa, r_iaS, r_iaA, r_ex2a, r_ex2b, r_ex3a, r_ex3b, r_ex3c, r_nc, r_keepE, Nat.zero_add, Nat.add_zero, Nat.mul_one, Int.toNat_natCast, toNat_sub1, toNat_add1, decide_true, decide_false, Bool.not_true, Bool.not_false, if_true, if_false, Bool.false_eq_true, reduceCtorEq, hlt']
    rw [List.take_length] at hF
    exact ⟨t3, rfl, hk, hF.new h0 (Nat.le_refl _) ⟨by omega, fun i hi => by have := (hrow i hi).2; omega⟩⟩
  have hlt' : (i : Int) < (h.length : Int) := by omega
  obtain ⟨b, off, cap, rv, he, hc, hri⟩ := (hr.below hk).row hlt
  cases he
  simp (disch := omega) only [r_ln, r_pick, r_pickT, r_pickF, r_condT, r_condF, r_gdTT, r_gdFF, r_gdTF, r_gdFT, r_gqTT, r_gqFF, r_gqTF, r_gqFT, r_not, r_lss, r_leq, r_gtr, r_geq, r_eql, r_neq, r_add, r_sub, r_min2, r_max2, r_min3, r_max3, r_fa, r_iaS, r_iaA, r_ex2a, r_ex2b, r_ex3a, r_ex3b, r_ex3c, r_nc, r_keepE, Nat.zero_add, Nat.add_zero, Nat.mul_one, Int.toNat_natCast, toNat_sub1, toNat_add1, decide_true, decide_false, Bool.not_true, Bool.not_false, if_true, if_false, Bool.false_eq_true, reduceCtorEq, hlt', r_ld hc]
  obtain ⟨hp, hp2⟩ := hrow i hlt
  refine r_apInts (base := wr.heap.size) (n := 0) (v := .slice none 0 0) (xs := []) (World.ownsRow_nil _ _ _ _) hri (by omega) (Nat.le_refl _) fun v' w2 ho hg => ?_
  have hk2 : Kp wr w2 := Below.grown (Kp.refl _) hg (Nat.le_refl _) fun k hk' => by simp [Value.ownBlock] at hk'
  rw [Nat.zero_add, List.nil_append] at ho
  rcases ho.2 with ⟨rfl, h'⟩ | ⟨g, cap', cur, rfl, hb, hg', hle', hm, hs, ht⟩
  · omega
  have hread : ∀ j, j < (h.getD i []).length → cur[j]? = some (.int .i64 ((h.getD i []).getD j 0)) := fun j hj => by
    have : cur.toList[j]? = (intCells (h.getD i []))[j]? := by rw [← ht, List.getElem?_take, if_pos (by omega)]
    rw [← Array.getElem?_toList, this, intCells_get hj]
  rw [bs26]
  have n3 := heap_alloc_new w2 (.cells #[.slice (some ⟨g, 0, none⟩) (h.getD i []).length cap'] 36)
  have hk3 : Kp w2 (w2.alloc (.cells #[.slice (some ⟨g, 0, none⟩) (h.getD i []).length cap'] 36)) := below_alloc _
  generalize w2.alloc (.cells #[.slice (some ⟨g, 0, none⟩) (h.getD i []).length cap'] 36) = w3 at *
  have hF3 := (hF.kp hk2).kp hk3
  have s1 := hk.size
  have s2 := hk2.size
  have s3 := hk3.size
  have htl : (h.take i).length = i := by simp; omega
  refine r_apF hF3 n3 (by omega) (block_below hg' hk3) hread (fun q hq e => by
      obtain ⟨_, rc, x1, _⟩ := hF.row q hq
      have := block_lt x1
      omega) (by omega) (by omega) fun v' w4 hF4 hg4 => ?_
  try simp (disch := omega) only [r_ln, r_pick, r_pickT, r_pickF, r_condT, r_condF, r_gdTT, r_gdFF, r_gdTF, r_gdFT, r_gqTT, r_gqFF, r_gqTF, r_gqFT, r_not, r_lss, r_leq, r_gtr, r_geq, r_eql, r_neq, r_add, r_sub, r_min2, r_max2, r_min3, r_max3, r_fa, r_iaS, r_iaA, r_ex2a, r_ex2b, r_ex3a, r_ex3b, r_ex3c, r_nc, r_keepE, Nat.zero_add, Nat.add_zero, Nat.mul_one, Int.toNat_natCast, toNat_sub1, toNat_add1, decide_true, decide_false, Bool.not_true, Bool.not_false, if_true, if_false, Bool.false_eq_true, reduceCtorEq]
  have e : h.take i ++ [h.getD i []] = h.take (i + 1) := by rw [take_succ' _ _ hlt, getD_lt _ _ _ hlt]
  rw [e] at hF4
  exact ⟨⟨i + 1, _, _, by omega, by go_num, Below.grown (Kp.trans (Kp.trans hk hk2) hk3) hg4 (by omega) fun k hk' => owned_block hF.outer hk', hF4⟩, by simp only [intOf]; omega⟩

set_option maxRecDepth 100000 in
theorem same_calls (v1 v2 : Value) (h1 h2 : List (List Int)) (w : World) (hr1 : RdRows w v1 h1) (hr2 : RdRows w v2 h2) :
    Calls Try.prog 20 #[v1, v2] w fun e w' => e = .returned (.bool (decide (h1 = h2))) ∧ Kp w w' := by
  obtain ⟨a1, c1, rfl, hl1⟩ := hr1.len
  obtain ⟨a2, c2, rfl, hl2⟩ := hr2.len
  refine lift20 ?_
  unfold S20
  by_cases hne : (h1.length : Int) = h2.length
  case neg =>
    simp (disch := omega) only [r_ln, r_pick, r_pickT, r_pickF, r_condT, r_condF, r_gdTT, r_gdFF, r_gdTF, r_gdFT, r_gqTT, r_gqFF, r_gqTF, r_gqFT, r_not, r_lss, r_leq, r_gtr, r_geq, r_eql, r_neq, r_add, r_sub, r_min2, r_max2, r_min3, r_max3, r_fa, r_iaS, r_iaA, r_ex2a, r_ex2b, r_ex3a, r_ex3b, r_ex3c, r_nc, r_keepE, Nat.zero_add, Nat.add_zero, Nat.mul_one, Int.toNat_natCast, toNat_sub1, toNat_add1, decide_true, decide_false, Bool.not_true, Bool.not_false, if_true, if_false, Bool.false_eq_true, reduceCtorEq, hne]
    exact ⟨ret_bool (decide_eq_false (fun e => hne (by rw [e]))).symm, Kp.refl _⟩
  simp (disch := omega) only [r_ln, r_pick, r_pickT, r_pickF, r_condT, r_condF, r_gdTT, r_gdFF, r_gdTF, r_gdFT, r_gqTT, r_gqFF, r_gqTF, r_gqFT, r_not, r_lss, r_leq, r_gtr, r_geq, r_eql, r_neq, r_add, r_sub, r_min2, r_max2, r_min3, r_max3, r_fa, r_iaS, r_iaA, r_ex2a, r_ex2b, r_ex3a, r_ex3b, r_ex3c, r_nc, r_keepE, Nat.zero_add, Nat.add_zero, Nat.mul_one, Int.toNat_natCast, toNat_sub1, toNat_add1, decide_true, decide_false, Bool.not_true, Bool.not_false, if_true, if_false, Bool.false_eq_true, reduceCtorEq, hne]
  refine ⟨fun t5 wr => ∃ i : Nat, i ≤ h1.length ∧ t5 = .int .i64 i ∧ Kp w wr ∧ ∀ k, k < i → h1.getD k [] = h2.getD k [], fun t5 _ => h1.length - (intOf t5).toNat, ⟨0, by omega, rfl, Kp.refl _, by omega⟩, ?_⟩
  rintro _ _ wr ⟨i, hi, rfl, hk, hprev⟩
  by_cases hlt : i < h1.length
  case neg =>
    have hlt' : ¬ (i : Int) < (h2.length : Int) := by omega
    simp (disch := omega) only [r_ln, r_pick, r_pickT, r_pickF, r_condT, r_condF, r_gdTT, r_gdFF, r_gdTF, r_gdFT, r_gqTT, r_gqFF, r_gqTF, r_gqFT, r_not, r_lss, r_leq, r_gtr, r_geq, r_eql, r_neq, r_add, r_sub, r_min2, r_max2, r_min3, r_max3, r_fa, r_iaS, r_iaA, r_ex2a, r_ex2b, r_ex3a, r_ex3b, r_ex3c, r_nc, r_keepE, Nat.zero_add, Nat.add_zero, Nat.mul_one, Int.toNat_natCast, toNat_sub1, toNat_add1, decide_true, decide_false, Bool.not_true, Bool.not_false, if_true, if_false, Bool.false_eq_true, reduceCtorEq, hlt']
    refine ⟨ret_bool (decide_eq_true ?_).symm, hk⟩
    refine List.ext_getElem (by omega) fun k x1 x2 => ?_
    have := hprev k (by omega)
    rwa [getD_lt _ _ _ x1, getD_lt _ _ _ x2] at this
  have hlt' : (i : Int) < (h2.length : Int) := by omega
  obtain ⟨b1, o1, _, rv1, e1, hc1, hrow1⟩ := (hr1.below hk).row hlt
  cases e1
  obtain ⟨b2, o2, _, rv2, e2, hc2, hrow2⟩ := (hr2.below hk).row (i := i) (by omega)
  cases e2
  obtain ⟨ra1, rc1, rfl, hrl1⟩ := hrow1.len
  obtain ⟨ra2, rc2, rfl, hrl2⟩ := hrow2.len
  simp (disch := omega) only [r_ln, r_pick, r_pickT, r_pickF, r_condT, r_condF, r_gdTT, r_gdFF, r_gdTF, r_gdFT, r_gqTT, r_gqFF, r_gqTF, r_gqFT, r_not, r_lss, r_leq, r_gtr, r_geq, r_eql, r_neq, r_add, r_sub, r_min2, r_max2, r_min3, r_max3, r_fa, r_iaS, r_iaA, r_ex2a, r_ex2b, r_ex3a, r_ex3b, r_ex3c, r_nc, r_keepE, Nat.zero_add, Nat.add_zero, Nat.mul_one, Int.toNat_natCast, toNat_sub1, toNat_add1, decide_true, decide_false, Bool.not_true, Bool.not_false, if_true, if_false, Bool.false_eq_true, reduceCtorEq, hlt']
  refine r_drew fun wa hka _ => ?_
  have hc1a := cell_later hka hc1
  have hc2a := cell_later hka hc2
  by_cases hrl : ((h1.getD i []).length : Int) = (h2.getD i []).length
  case neg =>
    simp (disch := omega) only [r_ln, r_pick, r_pickT, r_pickF, r_condT, r_condF, r_gdTT, r_gdFF, r_gdTF, r_gdFT, r_gqTT, r_gqFF, r_gqTF, r_gqFT, r_not, r_lss, r_leq, r_gtr, r_geq, r_eql, r_neq, r_add, r_sub, r_min2, r_max2, r_min3, r_max3, r_fa, r_iaS, r_iaA, r_ex2a, r_ex2b, r_ex3a, r_ex3b, r_ex3c, r_nc, r_keepE, Nat.zero_add, Nat.add_zero, Nat.mul_one, Int.toNat_natCast, toNat_sub1, toNat_add1, decide_true, decide_false, Bool.not_true, Bool.not_false, if_true, if_false, Bool.false_eq_true, reduceCtorEq, r_ld hc1a, r_ld hc2a, hrl]
    exact ⟨ret_bool (decide_eq_false (fun e => hrl (by rw [e]))).symm, Kp.trans hk hka⟩
  simp (disch := omega) only [r_ln, r_pick, r_pickT, r_pickF, r_condT, r_condF, r_gdTT, r_gdFF, r_gdTF, r_gdFT, r_gqTT, r_gqFF, r_gqTF, r_gqFT, r_not, r_lss, r_leq, r_gtr, r_geq, r_eql, r_neq, r_add, r_sub, r_min2, r_max2, r_min3, r_max3, r_fa, r_iaS, r_iaA, r_ex2a, r_ex2b, r_ex3a, r_ex3b, r_ex3c, r_nc, r_keepE, Nat.zero_add, Nat.add_zero, Nat.mul_one, Int.toNat_natCast, toNat_sub1, toNat_add1, decide_true, decide_false, Bool.not_true, Bool.not_false, if_true, if_false, Bool.false_eq_true, reduceCtorEq, r_ld hc1a, r_ld hc2a, hrl]
  refine ⟨fun t6 wq => ∃ j : Nat, j ≤ (h1.getD i []).length ∧ t6 = .int .i64 j ∧ Kp wa wq ∧ ∀ k, k < j → (h1.getD i []).getD k 0 = (h2.getD i []).getD k 0, fun t6 _ => (h1.getD i []).length - (intOf t6).toNat, ⟨0, by omega, rfl, Kp.refl _, by omega⟩, ?_⟩
  rintro _ _ wq ⟨j, hj, rfl, hkq, hpj⟩
  have hc1q := cell_later hkq hc1a
  have hc2q := cell_later hkq hc2a
  by_cases hjl : j < (h1.getD i []).length
  case neg =>
    have hjl' : ¬ (j : Int) < ((h2.getD i []).length : Int) := by omega
    have hjl2 : ¬ (j : Int) < ((h1.getD i []).length : Int) := by omega
    simp (disch := omega) only [r_ln, r_pick, r_pickT, r_pickF, r_condT, r_condF, r_gdTT, r_gdFF, r_gdTF, r_gdFT, r_gqTT, r_gqFF, r_gqTF, r_gqFT, r_not, r_lss, r_leq, r_gtr, r_geq, r_eql, r_neq, r_add, r_sub, r_min2, r_max2, r_min3, r_max3, r_fa, r_iaS, r_iaA, r_ex2a, r_ex2b, r_ex3a, r_ex3b, r_ex3c, r_nc, r_keepE, Nat.zero_add, Nat.add_zero, Nat.mul_one, Int.toNat_natCast, toNat_sub1, toNat_add1, decide_true, decide_false, Bool.not_true, Bool.not_false, if_true, if_false, Bool.false_eq_true, reduceCtorEq, r_ld hc1q, hjl', hjl2]
    refine ⟨⟨i + 1, by omega, by go_num, Kp.trans (Kp.trans hk hka) hkq, fun k hk' => ?_⟩, by simp only [intOf]; omega⟩
    by_cases hki : k < i
    · exact hprev k hki
    · have : k = i := by omega
      subst this
      refine List.ext_getElem (by omega) fun m x1 x2 => ?_
      have := hpj m (by omega)
      rwa [getD_lt _ _ _ x1, getD_lt _ _ _ x2] at this
  have hjl' : (j : Int) < ((h2.getD i []).length : Int) := by omega
  have hjl2 : (j : Int) < ((h1.getD i []).length : Int) := by omega
  simp (disch := omega) only [r_ln, r_pick, r_pickT, r_pickF, r_condT, r_condF, r_gdTT, r_gdFF, r_gdTF, r_gdFT, r_gqTT, r_gqFF, r_gqTF, r_gqFT, r_not, r_lss, r_leq, r_gtr, r_geq, r_eql, r_neq, r_add, r_sub, r_min2, r_max2, r_min3, r_max3, r_fa, r_iaS, r_iaA, r_ex2a, r_ex2b, r_ex3a, r_ex3b, r_ex3c, r_nc, r_keepE, Nat.zero_add, Nat.add_zero, Nat.mul_one, Int.toNat_natCast, toNat_sub1, toNat_add1, decide_true, decide_false, Bool.not_true, Bool.not_false, if_true, if_false, Bool.false_eq_true, reduceCtorEq, r_ld hc1q, hjl', hjl2]
  refine r_drew fun wb hkb _ => ?_
  have hc1b := cell_later hkb hc1q
  have hc2b := cell_later hkb hc2q
  obtain ⟨x1, y1, _, e1, hx1⟩ := (hrow1.below (Kp.trans hka (Kp.trans hkq hkb))).at hjl
  cases e1
  obtain ⟨x2, y2, _, e2, hx2⟩ := (hrow2.below (Kp.trans hka (Kp.trans hkq hkb))).at (j := j) (by omega)
  cases e2
  by_cases he : (h1.getD i []).getD j 0 = (h2.getD i []).getD j 0
  · simp (disch := omega) only [r_ln, r_pick, r_pickT, r_pickF, r_condT, r_condF, r_gdTT, r_gdFF, r_gdTF, r_gdFT, r_gqTT, r_gqFF, r_gqTF, r_gqFT, r_not, r_lss, r_leq, r_gtr, r_geq, r_eql, r_neq, r_add, r_sub, r_min2, r_max2, r_min3, r_max3, r_fa, r_iaS, r_iaA, r_ex2a, r_ex2b, r_ex3a, r_ex3b, r_ex3c, r_nc, r_keepE, Nat.zero_add, Nat.add_zero, Nat.mul_one, Int.toNat_natCast, toNat_sub1, toNat_add1, decide_true, decide_false, Bool.not_true, Bool.not_false, if_true, if_false, Bool.false_eq_true, reduceCtorEq, r_ld hc1b, r_ld hc2b, r_ld hx1, r_ld hx2, he]
    refine ⟨⟨j + 1, by omega, by go_num, Kp.trans hkq hkb, fun k hk' => ?_⟩, by simp only [intOf]; omega⟩
    by_cases hkj : k < j
    · exact hpj k hkj
    · have : k = j := by omega
      subst this; exact he
  · simp (disch := omega) only [r_ln, r_pick, r_pickT, r_pickF, r_condT, r_condF, r_gdTT, r_gdFF, r_gdTF, r_gdFT, r_gqTT, r_gqFF, r_gqTF, r_gqFT, r_not, r_lss, r_leq, r_gtr, r_geq, r_eql, r_neq, r_add, r_sub, r_min2, r_max2, r_min3, r_max3, r_fa, r_iaS, r_iaA, r_ex2a, r_ex2b, r_ex3a, r_ex3b, r_ex3c, r_nc, r_keepE, Nat.zero_add, Nat.add_zero, Nat.mul_one, Int.toNat_natCast, toNat_sub1, toNat_add1, decide_true, decide_false, Bool.not_true, Bool.not_false, if_true, if_false, Bool.false_eq_true, reduceCtorEq, r_ld hc1b, r_ld hc2b, r_ld hx1, r_ld hx2, he]
    exact ⟨ret_bool (decide_eq_false (fun e => he (by rw [e]))).symm, Kp.trans (Kp.trans hk hka) (Kp.trans hkq hkb)⟩

def volM (h : List (List Int)) : Int := (h.map List.sum).sum

theorem sum_le {M : Int} : ∀ (l : List Int), (∀ x ∈ l, 0 ≤ x ∧ x ≤ M) → 0 ≤ l.sum ∧ l.sum ≤ l.length * M
  | [], _ => by simp
  | x :: l, h => by
    have h1 := h x (by simp)
    have h2 := sum_le l fun y hy => h y (by simp [hy])
    simp only [List.sum_cons, List.length_cons]
    have e : ((l.length + 1 : Nat) : Int) * M = l.length * M + M := by rw [Int.natCast_add, Int.add_mul]; simp
    rw [e]; omega

theorem sum_takeI_succ {l : List Int} {i : Nat} (h : i < l.length) : (l.take (i + 1)).sum = (l.take i).sum + l.getD i 0 := by
  rw [take_succ' _ _ h, List.sum_append, getD_lt _ _ _ h]
  simp

theorem sum_takeH_succ {h : List (List Int)} {i : Nat} (hi : i < h.length) : ((h.map List.sum).take (i + 1)).sum = ((h.map List.sum).take i).sum + (h.getD i []).sum := by
  rw [sum_takeI_succ (by simpa using hi)]
  congr 1
  simp [List.getD_eq_getElem?_getD, hi]

set_option maxRecDepth 100000 in
theorem volume_calls (v : Value) (h : List (List Int)) (w : World) (hr : RdRows w v h) (hl : h.length ≤ 100) (hrow : ∀ i, i < h.length → (h.getD i []).length ≤ 100) (hpos : ∀ l ∈ h, ∀ x ∈ l, 0 ≤ x ∧ x ≤ 1000000) :
    Calls Try.prog 13 #[v] w fun e w' => e = .returned (.int .i64 (volM h)) ∧ Kp w w' := by
  obtain ⟨va, vc, rfl, _⟩ := hr.len
  refine lift13 ?_
  unfold S13
  have hrs : ∀ i, i < h.length → ∀ j, 0 ≤ ((h.getD i []).take j).sum ∧ ((h.getD i []).take j).sum ≤ 100000000 := fun i hi j => by
    have hm : h.getD i [] ∈ h := by rw [getD_lt _ _ _ hi]; exact List.getElem_mem hi
    have := sum_le (M := 1000000) ((h.getD i []).take j) fun x hx => hpos _ hm x (List.mem_of_mem_take hx)
    have h2 := hrow i hi
    have h3 : ((h.getD i []).take j).length ≤ 100 := by rw [List.length_take]; omega
    omega
  have hst : ∀ i, i ≤ h.length → 0 ≤ ((h.map List.sum).take i).sum ∧ ((h.map List.sum).take i).sum ≤ 10000000000 := fun i hi => by
    have := sum_le (M := 100000000) ((h.map List.sum).take i) fun x hx => by
      obtain ⟨l, hlm, rfl⟩ := List.mem_map.1 (List.mem_of_mem_take hx)
      obtain ⟨q, hq, e⟩ := List.getElem_of_mem hlm
      have := hrs q hq l.length
      rw [getD_lt _ _ _ hq, e, List.take_length] at this
      exact this
    have h3 : ((h.map List.sum).take i).length ≤ 100 := by rw [List.length_take, List.length_map]; omega
    omega
  refine ⟨fun t3 t4 wr => ∃ i : Nat, i ≤ h.length ∧ t4 = .int .i64 i ∧ t3 = .int .i64 ((h.map List.sum).take i).sum ∧ w = wr, fun _ t4 _ => h.length - (intOf t4).toNat, ⟨0, by omega, rfl, by simp, rfl⟩, ?_⟩
  rintro _ _ _ _ ⟨i, hi, rfl, rfl, rfl⟩
  by_cases hlt : i < h.length
  case neg =>
    have hlt' : ¬ (i : Int) < (h.length : Int) := by omega
    have e : i = h.length := by omega
    subst e
    simp (disch := omega) only [r_ln, r_pick, r_pickT, r_pickF, r_condT, r_condF, r_gdTT, r_gdFF, r_gdTF, r_gdFT, r_gqTT, r_gqFF, r_gqTF, r_gqFT, r_not, r_lss, r_leq, r_gtr, r_geq, r_eql, r_neq, r_add, r_sub, r_min2, r_max2, r_min3, r_max3, r_fa, r_iaS, r_iaA, r_ex2a, r_ex2b, r_ex3a, r_ex3b, r_ex3c, r_nc, r_keepE, Nat.zero_add, Nat.add_zero, Nat.mul_one, Int.toNat_natCast, toNat_sub1, toNat_add1, decide_true, decide_false, Bool.not_true, Bool.not_false, if_true, if_false, Bool.false_eq_true, reduceCtorEq, hlt']
    rw [List.take_of_length_le (by simp)]
    exact ⟨rfl, Kp.refl _⟩
  have hlt' : (i : Int) < (h.length : Int) := by omega
  simp (disch := omega) only [r_ln, r_pick, r_pickT, r_pickF, r_condT, r_condF, r_gdTT, r_gdFF, r_gdTF, r_gdFT, r_gqTT, r_gqFF, r_gqTF, r_gqFT, r_not, r_lss, r_leq, r_gtr, r_geq, r_eql, r_neq, r_add, r_sub, r_min2, r_max2, r_min3, r_max3, r_fa, r_iaS, r_iaA, r_ex2a, r_ex2b, r_ex3a, r_ex3b, r_ex3c, r_nc, r_keepE, Nat.zero_add, Nat.add_zero, Nat.mul_one, Int.toNat_natCast, toNat_sub1, toNat_add1, decide_true, decide_false, Bool.not_true, Bool.not_false, if_true, if_false, Bool.false_eq_true, reduceCtorEq, hlt']
  obtain ⟨b, off, cap, rv, he, hc, hri⟩ := hr.row hlt
  cases he
  obtain ⟨ra, rc, rfl, _⟩ := hri.len
  refine ⟨fun t3 t5 wr => ∃ j : Nat, j ≤ (h.getD i []).length ∧ t5 = .int .i64 j ∧ t3 = .int .i64 (((h.map List.sum).take i).sum + ((h.getD i []).take j).sum) ∧ w = wr, fun _ t5 _ => (h.getD i []).length - (intOf t5).toNat, ⟨0, by omega, rfl, by simp, rfl⟩, ?_⟩
  rintro _ _ _ _ ⟨j, hj, rfl, rfl, rfl⟩
  have s1 := hst i hi
  have s2 := hrs i hlt j
  have s3 := hrs i hlt (j + 1)
  by_cases hjl : j < (h.getD i []).length
  case neg =>
    have hjl' : ¬ (j : Int) < ((h.getD i []).length : Int) := by omega
    simp (disch := omega) only [r_ln, r_pick, r_pickT, r_pickF, r_condT, r_condF, r_gdTT, r_gdFF, r_gdTF, r_gdFT, r_gqTT, r_gqFF, r_gqTF, r_gqFT, r_not, r_lss, r_leq, r_gtr, r_geq, r_eql, r_neq, r_add, r_sub, r_min2, r_max2, r_min3, r_max3, r_fa, r_iaS, r_iaA, r_ex2a, r_ex2b, r_ex3a, r_ex3b, r_ex3c, r_nc, r_keepE, Nat.zero_add, Nat.add_zero, Nat.mul_one, Int.toNat_natCast, toNat_sub1, toNat_add1, decide_true, decide_false, Bool.not_true, Bool.not_false, if_true, if_false, Bool.false_eq_true, reduceCtorEq, r_ld hc, hjl']
    refine ⟨⟨i + 1, by omega, by go_num, ?_, trivial⟩, by simp only [intOf]; omega⟩
    rw [sum_takeH_succ hlt, List.take_of_length_le (l := h.getD i []) (by omega)]
  have hjl' : (j : Int) < ((h.getD i []).length : Int) := by omega
  obtain ⟨x1, y1, _, e1, hx1⟩ := hri.at hjl
  cases e1
  rw [sum_takeI_succ hjl] at s3
  simp (disch := omega) only [r_ln, r_pick, r_pickT, r_pickF, r_condT, r_condF, r_gdTT, r_gdFF, r_gdTF, r_gdFT, r_gqTT, r_gqFF, r_gqTF, r_gqFT, r_not, r_lss, r_leq, r_gtr, r_geq, r_eql, r_neq, r_add, r_sub, r_min2, r_max2, r_min3, r_max3, r_fa, r_iaS, r_iaA, r_ex2a, r_ex2b, r_ex3a, r_ex3b, r_ex3c, r_nc, r_keepE, Nat.zero_add, Nat.add_zero, Nat.mul_one, Int.toNat_natCast, toNat_sub1, toNat_add1, decide_true, decide_false, Bool.not_true, Bool.not_false, if_true, if_false, Bool.false_eq_true, reduceCtorEq, r_ld hc, hjl', r_ld hx1]
  exact ⟨⟨j + 1, by omega, by go_num, by rw [sum_takeI_succ hjl, Int.add_assoc], trivial⟩, by simp only [intOf]; omega⟩

end Go.Proofs.Ytaephdjmpmbfpaa
