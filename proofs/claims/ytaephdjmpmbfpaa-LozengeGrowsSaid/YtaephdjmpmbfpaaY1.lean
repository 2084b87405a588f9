/- Contracts: made, higher, complement, transpose, turn, changed, Complement, Transpose, Turn. -/
import Derived.Test.YtaephdjmpmbfpaaSym
import Derived.Test.YtaephdjmpmbfpaaSg
set_option linter.all false
namespace Go.Proofs.Ytaephdjmpmbfpaa
open Go.Lf Go.RowKit Go.Hp

/-- What is asked of a function value that gives a table's numbers. -/
def Gives (w : World) (f : Value) (r c : Nat) (F : Nat → Nat → Int) : Prop :=
  ∀ (i j : Nat) (wq : World) (K : Value → World → Prop), i < r → j < c → Kp w wq → (∀ w', Kp wq w' → K (.int .i64 (F i j)) w') → callW Try.prog f [.int .i64 i, .int .i64 j] wq K

theorem range_map_succ {α : Type} (f : Nat → α) (j : Nat) : (List.range (j + 1)).map f = (List.range j).map f ++ [f j] := by rw [List.range_succ, List.map_append]; rfl

set_option maxRecDepth 100000 in
theorem made_calls (r c : Nat) (f : Value) (F : Nat → Nat → Int) (w : World) (hr : 0 < r ∧ r ≤ 1000) (hc : 0 < c ∧ c ≤ 1000) (hf : Gives w f r c F) :
    Calls Try.prog 86 #[.int .i64 r, .int .i64 c, f] w fun e w' => ∃ v, e = .returned v ∧ Kp w w' ∧ NewRows w w' v (tabM r c F) := by
  refine lift86 ?_
  unfold S86
  refine ⟨fun t7 t12 wr => ∃ (i : Nat) (bs cs : Nat → Nat), i ≤ r ∧ t12 = .int .i64 i ∧ Kp w wr ∧ FRows w.heap.size wr t7 bs cs ((List.range i).map fun i => (List.range c).map fun j => F i j), fun _ t12 _ => r - (intOf t12).toNat,
    ⟨0, fun _ => 0, fun _ => 0, by omega, rfl, Kp.refl _, FRows.nil _ _ _ _⟩, ?_⟩
  rintro _ t7 _ wr ⟨i, bs, cs, hi, rfl, hk, hF⟩
  by_cases hlt : i < r
  case neg =>
    have hlt' : ¬ (i : Int) < (r : Int) := by omega
    have e : i = r := by omega
    subst e
    simp (disch := omega) only [r_ln, r_pick, r_pickT, r_pickF, r_condT, r_condF, r_gdTT, r_gdFF, r_gdTF, r_gdFT, r_gqTT, r_gqFF, r_gqTF, r_gqFT, r_not, r_lss, r_leq, r_gtr, r_geq, r_eql, r_neq, r_add, r_sub, r_min2, r_max2, r_min3, r_max3, r_fa, r_iaS, r_iaA, r_ex2a, r_ex2b, r_ex3a, r_ex3b, r_ex3c, r_nc, r_keepE, Nat.zero_add, Nat.add_zero, Nat.mul_one, Int.toNat_natCast, toNat_sub1, toNat_add1, decide_true, decide_false, Bool.not_true, Bool.not_false, if_true, if_false, Bool.false_eq_true, reduceCtorEq, hlt']
    exact ⟨t7, rfl, hk, hF.new (by simp; omega) (Nat.le_refl _) ⟨by simp; omega, fun q hq => by
      simp only [List.length_map, List.length_range] at hq
      have := (tabM_sized i c F).2 q hq
      unfold tabM at this
      rw [this]; omega⟩⟩
  have hlt' : (i : Int) < (r : Int) := by omega
  simp (disch := omega) only [r_ln, r_pick, r_pickT, r_pickF, r_condT, r_condF, r_gdTT, r_gdFF, r_gdTF, r_gdFT, r_gqTT, r_gqFF, r_gqTF, r_gqFT, r_not, r_lss, r_leq, r_gtr, r_geq, r_eql, r_neq, r_add, r_sub, r_min2, r_max2, r_min3, r_max3, r_fa, r_iaS, r_iaA, r_ex2a, r_ex2b, r_ex3a, r_ex3b, r_ex3c, r_nc, r_keepE, Nat.zero_add, Nat.add_zero, Nat.mul_one, Int.toNat_natCast, toNat_sub1, toNat_add1, decide_true, decide_false, Bool.not_true, Bool.not_false, if_true, if_false, Bool.false_eq_true, reduceCtorEq, hlt']
  refine ⟨fun t9 t16 wq => ∃ j : Nat, j ≤ c ∧ t16 = .int .i64 j ∧ Kp wr wq ∧ wq.ownsRow wr.heap.size 3 1 t9 ((List.range j).map (F i)).length (intCells ((List.range j).map (F i))), fun _ t16 _ => c - (intOf t16).toNat,
    ⟨0, by omega, rfl, Kp.refl _, World.ownsRow_nil _ _ _ _⟩, ?_⟩
  rintro _ t9 _ wq ⟨j, hj, rfl, hkq, hown⟩
  have s1 := hk.size
  have s2 := hkq.size
  by_cases hjl : j < c
  case pos =>
    have hjl' : (j : Int) < (c : Int) := by omega
    simp (disch := omega) only [r_ln, r_pick, r_pickT, r_pickF, r_condT, r_condF, r_gdTT, r_gdFF, r_gdTF, r_gdFT, r_gqTT, r_gqFF, r_gqTF, r_gqFT, r_not, r_lss, r_leq, r_gtr, r_geq, r_eql, r_neq, r_add, r_sub, r_min2, r_max2, r_min3, r_max3, r_fa, r_iaS, r_iaA, r_ex2a, r_ex2b, r_ex3a, r_ex3b, r_ex3c, r_nc, r_keepE, Nat.zero_add, Nat.add_zero, Nat.mul_one, Int.toNat_natCast, toNat_sub1, toNat_add1, decide_true, decide_false, Bool.not_true, Bool.not_false, if_true, if_false, Bool.false_eq_true, reduceCtorEq, hjl']
    refine hf i j wq _ hlt hjl (Kp.trans hk hkq) fun w2 k2 => ?_
    have s3 := k2.size
    refine r_pushInt (w0 := wr) (owns_kp hown k2) (by simp; omega) (by omega) (Kp.trans hkq k2) (Nat.le_refl _) fun v3 w3 ho3 k3 => ?_
    try simp (disch := omega) only [r_ln, r_pick, r_pickT, r_pickF, r_condT, r_condF, r_gdTT, r_gdFF, r_gdTF, r_gdFT, r_gqTT, r_gqFF, r_gqTF, r_gqFT, r_not, r_lss, r_leq, r_gtr, r_geq, r_eql, r_neq, r_add, r_sub, r_min2, r_max2, r_min3, r_max3, r_fa, r_iaS, r_iaA, r_ex2a, r_ex2b, r_ex3a, r_ex3b, r_ex3c, r_nc, r_keepE, Nat.zero_add, Nat.add_zero, Nat.mul_one, Int.toNat_natCast, toNat_sub1, toNat_add1, decide_true, decide_false, Bool.not_true, Bool.not_false, if_true, if_false, Bool.false_eq_true, reduceCtorEq]
    refine ⟨⟨j + 1, by omega, by go_num, k3, ?_⟩, by simp only [intOf]; omega⟩
    rw [range_map_succ]; exact ho3
  have hjl' : ¬ (j : Int) < (c : Int) := by omega
  have e : j = c := by omega
  subst e
  simp (disch := omega) only [r_ln, r_pick, r_pickT, r_pickF, r_condT, r_condF, r_gdTT, r_gdFF, r_gdTF, r_gdFT, r_gqTT, r_gqFF, r_gqTF, r_gqFT, r_not, r_lss, r_leq, r_gtr, r_geq, r_eql, r_neq, r_add, r_sub, r_min2, r_max2, r_min3, r_max3, r_fa, r_iaS, r_iaA, r_ex2a, r_ex2b, r_ex3a, r_ex3b, r_ex3c, r_nc, r_keepE, Nat.zero_add, Nat.add_zero, Nat.mul_one, Int.toNat_natCast, toNat_sub1, toNat_add1, decide_true, decide_false, Bool.not_true, Bool.not_false, if_true, if_false, Bool.false_eq_true, reduceCtorEq, hjl']
  have hll : ((List.range j).map (F i)).length = j := by simp
  generalize hrow : (List.range j).map (F i) = row at *
  rcases hown.2 with ⟨rfl, h'⟩ | ⟨g, cap', cur, rfl, hb, hg', hle', hm, hs, ht⟩
  · omega
  have hread : ∀ q, q < row.length → cur[q]? = some (.int .i64 (row.getD q 0)) := fun q hq => by
    have : cur.toList[q]? = (intCells row)[q]? := by rw [← ht, List.getElem?_take, if_pos (by omega)]
    rw [← Array.getElem?_toList, this, intCells_get hq]
  rw [bs26]
  have n3 := heap_alloc_new wq (.cells #[.slice (some ⟨g, 0, none⟩) row.length cap'] 36)
  have hk3 : Kp wq (wq.alloc (.cells #[.slice (some ⟨g, 0, none⟩) row.length cap'] 36)) := below_alloc _
  generalize wq.alloc (.cells #[.slice (some ⟨g, 0, none⟩) row.length cap'] 36) = w3 at *
  have hF3 := (hF.kp hkq).kp hk3
  have s3 := hk3.size
  refine r_apF hF3 n3 (by omega) (block_below hg' hk3) hread (fun q hq e => by
      obtain ⟨_, rc, x1, _⟩ := hF.row q hq
      have := block_lt x1
      omega) (by simp; omega) (by omega) fun v' w4 hF4 hg4 => ?_
  try simp (disch := omega) only [r_ln, r_pick, r_pickT, r_pickF, r_condT, r_condF, r_gdTT, r_gdFF, r_gdTF, r_gdFT, r_gqTT, r_gqFF, r_gqTF, r_gqFT, r_not, r_lss, r_leq, r_gtr, r_geq, r_eql, r_neq, r_add, r_sub, r_min2, r_max2, r_min3, r_max3, r_fa, r_iaS, r_iaA, r_ex2a, r_ex2b, r_ex3a, r_ex3b, r_ex3c, r_nc, r_keepE, Nat.zero_add, Nat.add_zero, Nat.mul_one, Int.toNat_natCast, toNat_sub1, toNat_add1, decide_true, decide_false, Bool.not_true, Bool.not_false, if_true, if_false, Bool.false_eq_true, reduceCtorEq]
  rw [← hrow] at hF4
  rw [← range_map_succ (fun i => (List.range j).map fun j => F i j)] at hF4
  exact ⟨⟨i + 1, _, _, by omega, by go_num, Below.grown (Kp.trans (Kp.trans hk hkq) hk3) hg4 (by omega) fun k hk' => owned_block hF.outer hk', hF4⟩, by simp only [intOf]; omega⟩

theorem cnt_step (k : Int) (l : List Int) (j : Nat) (h : j < l.length) : cnt (l.take (j + 1)) k = cnt (l.take j) k + if k < l.getD j 0 then 1 else 0 := by
  unfold cnt
  rw [take_succ' l j h, List.filter_append, getD_lt _ _ _ h]
  by_cases hk : k < l[j] <;> simp [hk]

set_option maxRecDepth 100000 in
theorem higher_calls (v : Value) (l : List Int) (k : Int) (w : World) (h : RdInts w v l) : Calls Try.prog 77 #[v, .int .i64 k] w fun e w' => e = .returned (.int .i64 (cnt l k : Nat)) ∧ w = w' := by
  obtain ⟨a, cap, rfl, hlen⟩ := h.len
  refine lift77 ?_
  unfold S77
  simp only [r_ln, r_pick, r_pickT, r_pickF, r_condT, r_condF, r_gdTT, r_gdFF, r_gdTF, r_gdFT, r_gqTT, r_gqFF, r_gqTF, r_gqFT, r_not, r_lss, r_leq, r_gtr, r_geq, r_eql, r_neq, r_add, r_sub, r_min2, r_max2, r_min3, r_max3, r_fa, r_iaS, r_iaA, r_ex2a, r_ex2b, r_ex3a, r_ex3b, r_ex3c, r_nc, r_keepE, Nat.zero_add, Nat.add_zero, Nat.mul_one, Int.toNat_natCast, toNat_sub1, toNat_add1, decide_true, decide_false, Bool.not_true, Bool.not_false, if_true, if_false, Bool.false_eq_true, reduceCtorEq]
  refine ⟨fun t5 t10 wr => ∃ j : Nat, j ≤ l.length ∧ t10 = .int .i64 j ∧ t5 = .int .i64 (cnt (l.take j) k : Nat) ∧ w = wr, fun _ t10 _ => l.length - (intOf t10).toNat, ⟨0, by omega, rfl, rfl, rfl⟩, ?_⟩
  rintro _ _ _ _ ⟨j, hj, rfl, rfl, rfl⟩
  by_cases hlt : j < l.length
  case neg =>
    have hlt' : ¬ (j : Int) < (l.length : Int) := by omega
    have e : j = l.length := by omega
    subst e
    simp (disch := omega) only [r_ln, r_pick, r_pickT, r_pickF, r_condT, r_condF, r_gdTT, r_gdFF, r_gdTF, r_gdFT, r_gqTT, r_gqFF, r_gqTF, r_gqFT, r_not, r_lss, r_leq, r_gtr, r_geq, r_eql, r_neq, r_add, r_sub, r_min2, r_max2, r_min3, r_max3, r_fa, r_iaS, r_iaA, r_ex2a, r_ex2b, r_ex3a, r_ex3b, r_ex3c, r_nc, r_keepE, Nat.zero_add, Nat.add_zero, Nat.mul_one, Int.toNat_natCast, toNat_sub1, toNat_add1, decide_true, decide_false, Bool.not_true, Bool.not_false, if_true, if_false, Bool.false_eq_true, reduceCtorEq, hlt', List.take_length]
    exact ⟨trivial, trivial⟩
  have hlt' : (j : Int) < (l.length : Int) := by omega
  obtain ⟨b, off, _, e1, hc⟩ := h.at hlt
  cases e1
  have hle := cnt_le (l.take j) k
  rw [List.length_take] at hle
  have hst := cnt_step k l j hlt
  simp (disch := omega) only [r_ln, r_pick, r_pickT, r_pickF, r_condT, r_condF, r_gdTT, r_gdFF, r_gdTF, r_gdFT, r_gqTT, r_gqFF, r_gqTF, r_gqFT, r_not, r_lss, r_leq, r_gtr, r_geq, r_eql, r_neq, r_add, r_sub, r_min2, r_max2, r_min3, r_max3, r_fa, r_iaS, r_iaA, r_ex2a, r_ex2b, r_ex3a, r_ex3b, r_ex3c, r_nc, r_keepE, Nat.zero_add, Nat.add_zero, Nat.mul_one, Int.toNat_natCast, toNat_sub1, toNat_add1, decide_true, decide_false, Bool.not_true, Bool.not_false, if_true, if_false, Bool.false_eq_true, reduceCtorEq, hlt', r_ld hc]
  refine r_join1 (fun t5 w' => t5 = .int .i64 (cnt (l.take (j + 1)) k : Nat) ∧ w = w') ?_ ?_
  · rintro _ _ ⟨rfl, rfl⟩
    simp (disch := omega) only [r_ln, r_pick, r_pickT, r_pickF, r_condT, r_condF, r_gdTT, r_gdFF, r_gdTF, r_gdFT, r_gqTT, r_gqFF, r_gqTF, r_gqFT, r_not, r_lss, r_leq, r_gtr, r_geq, r_eql, r_neq, r_add, r_sub, r_min2, r_max2, r_min3, r_max3, r_fa, r_iaS, r_iaA, r_ex2a, r_ex2b, r_ex3a, r_ex3b, r_ex3c, r_nc, r_keepE, Nat.zero_add, Nat.add_zero, Nat.mul_one, Int.toNat_natCast, toNat_sub1, toNat_add1, decide_true, decide_false, Bool.not_true, Bool.not_false, if_true, if_false, Bool.false_eq_true, reduceCtorEq]
    exact ⟨⟨j + 1, by omega, by go_num, rfl, trivial⟩, by simp only [intOf]; omega⟩
  · intro kk hkk
    by_cases hx : k < l.getD j 0
    · simp (disch := omega) only [r_ln, r_pick, r_pickT, r_pickF, r_condT, r_condF, r_gdTT, r_gdFF, r_gdTF, r_gdFT, r_gqTT, r_gqFF, r_gqTF, r_gqFT, r_not, r_lss, r_leq, r_gtr, r_geq, r_eql, r_neq, r_add, r_sub, r_min2, r_max2, r_min3, r_max3, r_fa, r_iaS, r_iaA, r_ex2a, r_ex2b, r_ex3a, r_ex3b, r_ex3c, r_nc, r_keepE, Nat.zero_add, Nat.add_zero, Nat.mul_one, Int.toNat_natCast, toNat_sub1, toNat_add1, decide_true, decide_false, Bool.not_true, Bool.not_false, if_true, if_false, Bool.false_eq_true, reduceCtorEq, hx]
      rw [if_pos hx] at hst
      exact hkk _ _ ⟨by rw [hst]; go_num, rfl⟩
    · simp (disch := omega) only [r_ln, r_pick, r_pickT, r_pickF, r_condT, r_condF, r_gdTT, r_gdFF, r_gdTF, r_gdFT, r_gqTT, r_gqFF, r_gqTF, r_gqFT, r_not, r_lss, r_leq, r_gtr, r_geq, r_eql, r_neq, r_add, r_sub, r_min2, r_max2, r_min3, r_max3, r_fa, r_iaS, r_iaA, r_ex2a, r_ex2b, r_ex3a, r_ex3b, r_ex3c, r_nc, r_keepE, Nat.zero_add, Nat.add_zero, Nat.mul_one, Int.toNat_natCast, toNat_sub1, toNat_add1, decide_true, decide_false, Bool.not_true, Bool.not_false, if_true, if_false, Bool.false_eq_true, reduceCtorEq, hx]
      rw [if_neg hx] at hst
      exact hkk _ _ ⟨by rw [hst]; rfl, rfl⟩

theorem box_slice {w : World} {t : TypeId} {a : Option Addr} {n c : Nat} {K : Value → World → Prop} (h : ∀ (b : Nat) (w' : World), b = w.heap.size → w'.heap.size = b + 1 → w'.heap[b]? = some (.cells #[.slice a n c] t (0, 0)) → Below w.heap.size w w' → K (.pointer (some ⟨b, 0, none⟩)) w') : boxW t (.slice a n c) w K := r_box h

set_option maxRecDepth 100000 in
theorem comp1_calls {A B C : Nat} {h : List (List Int)} (hh : IsHeap A B C h) (hA : A ≤ 4) (hB : B ≤ 4) (hC : C ≤ 4) (i j b2 b3 : Nat) (v : Value) (w : World) (hi : i < A) (hj : j < B)
    (h2 : w.heap[b2]? = some (.cells (boxV A B C).cells 25 (0, 0))) (h3 : w.heap[b3]? = some (.cells #[v] 26 (0, 0))) (hr : RdRows w v h) :
    Calls Try.prog 87 #[.int .i64 i, .int .i64 j, ptrV b2, ptrV b3] w fun e w' => e = .returned (.int .i64 ((C : Int) - hat h (A - 1 - i) (B - 1 - j))) ∧ Kp w w' := by
  have hs := sized_of hh
  refine lift87 ?_
  unfold S87
  refine r_drew fun w1 k1 _ => ?_
  obtain ⟨c0, c1, c2⟩ := box3 (block_below h2 k1)
  have cv : w1.cell? ⟨b3, 0, none⟩ = some v := by rw [cell_row (block_below h3 k1)]; rfl
  obtain ⟨b, o, cap, rv, rfl, hc, hrow⟩ := (hr.below k1).row (i := A - 1 - i) (by rw [hs.1]; omega)
  obtain ⟨rb, ro, rcap, rfl, hx⟩ := hrow.at (j := B - 1 - j) (by rw [hs.2 _ (by omega)]; omega)
  have hl := hs.1
  have hl2 := hs.2 (A - 1 - i) (by omega)
  have e1 : ((A : Int) - 1 - i).toNat = A - 1 - i := by omega
  have e2 : ((B : Int) - 1 - j).toNat = B - 1 - j := by omega
  have p1 := hh.pos (A - 1 - i) (B - 1 - j) (by omega) (by omega)
  have p2 := hh.top (A - 1 - i) (B - 1 - j) (by omega) (by omega)
  unfold hat at p1 p2 ⊢
  simp (disch := omega) only [r_ln, r_pick, r_pickT, r_pickF, r_condT, r_condF, r_gdTT, r_gdFF, r_gdTF, r_gdFT, r_gqTT, r_gqFF, r_gqTF, r_gqFT, r_not, r_lss, r_leq, r_gtr, r_geq, r_eql, r_neq, r_add, r_sub, r_min2, r_max2, r_min3, r_max3, r_fa, r_iaS, r_iaA, r_ex2a, r_ex2b, r_ex3a, r_ex3b, r_ex3c, r_nc, r_keepE, Nat.zero_add, Nat.add_zero, Nat.mul_one, Int.toNat_natCast, toNat_sub1, toNat_add1, decide_true, decide_false, Bool.not_true, Bool.not_false, if_true, if_false, Bool.false_eq_true, reduceCtorEq, r_ld c0, r_ld c1, r_ld c2, r_ld cv, e1, e2, r_ld hc, r_ld hx]
  exact ⟨trivial, k1⟩

theorem isHeap_of {A B C : Int} {h : List (List Int)} (he : heapErr A B C h = 0) : ∃ a b c : Nat, A = a ∧ B = b ∧ C = c ∧ (1 ≤ a ∧ a ≤ 4) ∧ (1 ≤ b ∧ b ≤ 4) ∧ (1 ≤ c ∧ c ≤ 4) ∧ IsHeap a b c h := by
  unfold heapErr at he
  split at he
  · rename_i hv
    obtain ⟨a, b, c, rfl, rfl, rfl, h1, h2, h3, h4, h5, h6⟩ := validB_nat hv.1
    exact ⟨a, b, c, rfl, rfl, rfl, ⟨h1, h2⟩, ⟨h3, h4⟩, ⟨h5, h6⟩, heapOk_iff.1 hv.2⟩
  · cases he

/-- What is asked of a function value that makes another heap of one. -/
def Makes (f : Value) (A B C : Int) (v : Value) (h R : List (List Int)) : Prop :=
  heapErr A B C h = 0 → ∀ (w : World) (K : Value → World → Prop), RdRows w v h → (∀ v' w', Kp w w' → NewRows w w' v' R → K v' w') → callW Try.prog f [boxV A B C, v] w K

set_option maxRecDepth 100000 in
theorem makes_comp (A B C : Int) (v : Value) (h : List (List Int)) : Makes (.func (.func 70) #[] #[]) A B C v h (compM A.toNat B.toNat C.toNat h) := by
  intro he w K hr hk
  obtain ⟨a, b, c, rfl, rfl, rfl, ha, hb, hc, hh⟩ := isHeap_of he
  refine r_call fok70 ?_
  refine lift70 ?_
  unfold S70
  obtain ⟨va, vc, hv, _⟩ := hr.len
  refine r_box fun b2 w1 e1 s1 g1 k1 => ?_
  subst hv
  refine box_slice fun b3 w2 e2 s2 g2 k2 => ?_
  obtain ⟨c0, c1, c2⟩ := box3 (block_below g1 k2)
  simp (disch := omega) only [r_ln, r_pick, r_pickT, r_pickF, r_condT, r_condF, r_gdTT, r_gdFF, r_gdTF, r_gdFT, r_gqTT, r_gqFF, r_gqTF, r_gqFT, r_not, r_lss, r_leq, r_gtr, r_geq, r_eql, r_neq, r_add, r_sub, r_min2, r_max2, r_min3, r_max3, r_fa, r_iaS, r_iaA, r_ex2a, r_ex2b, r_ex3a, r_ex3b, r_ex3c, r_nc, r_keepE, Nat.zero_add, Nat.add_zero, Nat.mul_one, Int.toNat_natCast, toNat_sub1, toNat_add1, decide_true, decide_false, Bool.not_true, Bool.not_false, if_true, if_false, Bool.false_eq_true, reduceCtorEq, r_ld c0, r_ld c1]
  have k12 := Kp.trans k1 k2
  refine r_use fok86 (made_calls a b _ (fun i j => (c : Int) - hat h (a - 1 - i) (b - 1 - j)) w2 (by omega) (by omega) ?_) rfl ?_
  · intro i j wq K hi hj hkq hK
    refine r_use fok87 (comp1_calls hh ha.2 hb.2 hc.2 i j b2 b3 _ wq hi hj (block_below (block_below g1 k2) hkq) (block_below g2 hkq) (hr.below (Kp.trans k12 hkq))) rfl ?_
    rintro _ w3 ⟨rfl, k3⟩
    exact ⟨_, rfl, hK _ k3⟩
  · rintro _ w3 ⟨v3, rfl, k3, g, bs, ho, hg, hbs⟩
    refine ⟨_, rfl, v3, rfl, hk _ _ (Kp.trans k12 k3) ⟨g, bs, ho, ?_, fun i hi => ?_⟩⟩
    · omega
    · have := hbs i hi; omega

set_option maxRecDepth 100000 in
theorem trans1_calls {A B C : Nat} {h : List (List Int)} (hh : IsHeap A B C h) (i j b3 : Nat) (v : Value) (w : World) (hi : i < A) (hj : j < B) (h3 : w.heap[b3]? = some (.cells #[v] 26 (0, 0))) (hr : RdRows w v h) :
    Calls Try.prog 88 #[.int .i64 j, .int .i64 i, ptrV b3] w fun e w' => e = .returned (.int .i64 (hat h i j)) ∧ Kp w w' := by
  have hs := sized_of hh
  refine lift88 ?_
  unfold S88
  have cv : w.cell? ⟨b3, 0, none⟩ = some v := by rw [cell_row h3]; rfl
  obtain ⟨b, o, cap, rv, rfl, hc, hrow⟩ := hr.row (i := i) (by rw [hs.1]; omega)
  obtain ⟨rb, ro, rcap, rfl, hx⟩ := hrow.at (j := j) (by rw [hs.2 _ (by omega)]; omega)
  have hl := hs.1
  have hl2 := hs.2 i hi
  simp (disch := omega) only [r_ln, r_pick, r_pickT, r_pickF, r_condT, r_condF, r_gdTT, r_gdFF, r_gdTF, r_gdFT, r_gqTT, r_gqFF, r_gqTF, r_gqFT, r_not, r_lss, r_leq, r_gtr, r_geq, r_eql, r_neq, r_add, r_sub, r_min2, r_max2, r_min3, r_max3, r_fa, r_iaS, r_iaA, r_ex2a, r_ex2b, r_ex3a, r_ex3b, r_ex3c, r_nc, r_keepE, Nat.zero_add, Nat.add_zero, Nat.mul_one, Int.toNat_natCast, toNat_sub1, toNat_add1, decide_true, decide_false, Bool.not_true, Bool.not_false, if_true, if_false, Bool.false_eq_true, reduceCtorEq, r_ld cv, r_ld hc, r_ld hx]
  exact ⟨rfl, Kp.refl _⟩

set_option maxRecDepth 100000 in
theorem makes_trans (A B C : Int) (v : Value) (h : List (List Int)) : Makes (.func (.func 71) #[] #[]) A B C v h (transM A.toNat B.toNat h) := by
  intro he w K hr hk
  obtain ⟨a, b, c, rfl, rfl, rfl, ha, hb, hc, hh⟩ := isHeap_of he
  refine r_call fok71 ?_
  refine lift71 ?_
  unfold S71
  obtain ⟨va, vc, hv, _⟩ := hr.len
  refine r_box fun b2 w1 e1 s1 g1 k1 => ?_
  subst hv
  refine box_slice fun b3 w2 e2 s2 g2 k2 => ?_
  obtain ⟨c0, c1, c2⟩ := box3 (block_below g1 k2)
  simp (disch := omega) only [r_ln, r_pick, r_pickT, r_pickF, r_condT, r_condF, r_gdTT, r_gdFF, r_gdTF, r_gdFT, r_gqTT, r_gqFF, r_gqTF, r_gqFT, r_not, r_lss, r_leq, r_gtr, r_geq, r_eql, r_neq, r_add, r_sub, r_min2, r_max2, r_min3, r_max3, r_fa, r_iaS, r_iaA, r_ex2a, r_ex2b, r_ex3a, r_ex3b, r_ex3c, r_nc, r_keepE, Nat.zero_add, Nat.add_zero, Nat.mul_one, Int.toNat_natCast, toNat_sub1, toNat_add1, decide_true, decide_false, Bool.not_true, Bool.not_false, if_true, if_false, Bool.false_eq_true, reduceCtorEq, r_ld c0, r_ld c1]
  have k12 := Kp.trans k1 k2
  refine r_use fok86 (made_calls b a _ (fun j i => hat h i j) w2 (by omega) (by omega) ?_) rfl ?_
  · intro j i wq K hj hi hkq hK
    refine r_use fok88 (trans1_calls hh i j b3 _ wq hi hj (block_below g2 hkq) (hr.below (Kp.trans k12 hkq))) rfl ?_
    rintro _ w3 ⟨rfl, k3⟩
    exact ⟨_, rfl, hK _ k3⟩
  · rintro _ w3 ⟨v3, rfl, k3, g, bs, ho, hg, hbs⟩
    refine ⟨_, rfl, v3, rfl, hk _ _ (Kp.trans k12 k3) ⟨g, bs, ho, ?_, fun i hi => ?_⟩⟩
    · omega
    · have := hbs i hi; omega

set_option maxRecDepth 100000 in
theorem turn1_calls {A B C : Nat} {h : List (List Int)} (hh : IsHeap A B C h) (k i b3 : Nat) (v : Value) (w : World) (hi : i < A) (h3 : w.heap[b3]? = some (.cells #[v] 26 (0, 0))) (hr : RdRows w v h) :
    Calls Try.prog 89 #[.int .i64 k, .int .i64 i, ptrV b3] w fun e w' => e = .returned (.int .i64 (cnt (h.getD i []) k : Nat)) ∧ Kp w w' := by
  have hs := sized_of hh
  refine lift89 ?_
  unfold S89
  have cv : w.cell? ⟨b3, 0, none⟩ = some v := by rw [cell_row h3]; rfl
  obtain ⟨b, o, cap, rv, rfl, hc, hrow⟩ := hr.row (i := i) (by rw [hs.1]; omega)
  have hl := hs.1
  simp (disch := omega) only [r_ln, r_pick, r_pickT, r_pickF, r_condT, r_condF, r_gdTT, r_gdFF, r_gdTF, r_gdFT, r_gqTT, r_gqFF, r_gqTF, r_gqFT, r_not, r_lss, r_leq, r_gtr, r_geq, r_eql, r_neq, r_add, r_sub, r_min2, r_max2, r_min3, r_max3, r_fa, r_iaS, r_iaA, r_ex2a, r_ex2b, r_ex3a, r_ex3b, r_ex3c, r_nc, r_keepE, Nat.zero_add, Nat.add_zero, Nat.mul_one, Int.toNat_natCast, toNat_sub1, toNat_add1, decide_true, decide_false, Bool.not_true, Bool.not_false, if_true, if_false, Bool.false_eq_true, reduceCtorEq, r_ld cv, r_ld hc]
  refine r_use fok77 (higher_calls rv _ k w hrow) rfl ?_
  rintro _ _ ⟨rfl, rfl⟩
  exact ⟨_, rfl, rfl, Kp.refl _⟩

set_option maxRecDepth 100000 in
theorem makes_turn (A B C : Int) (v : Value) (h : List (List Int)) : Makes (.func (.func 72) #[] #[]) A B C v h (turnM A.toNat C.toNat h) := by
  intro he w K hr hk
  obtain ⟨a, b, c, rfl, rfl, rfl, ha, hb, hc, hh⟩ := isHeap_of he
  refine r_call fok72 ?_
  refine lift72 ?_
  unfold S72
  obtain ⟨va, vc, hv, _⟩ := hr.len
  refine r_box fun b2 w1 e1 s1 g1 k1 => ?_
  subst hv
  refine box_slice fun b3 w2 e2 s2 g2 k2 => ?_
  obtain ⟨c0, c1, c2⟩ := box3 (block_below g1 k2)
  simp (disch := omega) only [r_ln, r_pick, r_pickT, r_pickF, r_condT, r_condF, r_gdTT, r_gdFF, r_gdTF, r_gdFT, r_gqTT, r_gqFF, r_gqTF, r_gqFT, r_not, r_lss, r_leq, r_gtr, r_geq, r_eql, r_neq, r_add, r_sub, r_min2, r_max2, r_min3, r_max3, r_fa, r_iaS, r_iaA, r_ex2a, r_ex2b, r_ex3a, r_ex3b, r_ex3c, r_nc, r_keepE, Nat.zero_add, Nat.add_zero, Nat.mul_one, Int.toNat_natCast, toNat_sub1, toNat_add1, decide_true, decide_false, Bool.not_true, Bool.not_false, if_true, if_false, Bool.false_eq_true, reduceCtorEq, r_ld c0, r_ld c2]
  have k12 := Kp.trans k1 k2
  refine r_use fok86 (made_calls c a _ (fun k i => (cnt (h.getD i []) k : Nat)) w2 (by omega) (by omega) ?_) rfl ?_
  · intro k i wq K hk2 hi hkq hK
    refine r_use fok89 (turn1_calls hh k i b3 _ wq hi (block_below g2 hkq) (hr.below (Kp.trans k12 hkq))) rfl ?_
    rintro _ w3 ⟨rfl, k3⟩
    exact ⟨_, rfl, hK _ k3⟩
  · rintro _ w3 ⟨v3, rfl, k3, g, bs, ho, hg, hbs⟩
    refine ⟨_, rfl, v3, rfl, hk _ _ (Kp.trans k12 k3) ⟨g, bs, ho, ?_, fun i hi => ?_⟩⟩
    · omega
    · have := hbs i hi; omega

/-- What a function that makes another heap hands back. -/
def ChgRes (A B C : Int) (h R : List (List Int)) (w w' : World) (v : Value) (err : Int) : Prop := err = heapErr A B C h ∧ if err = 0 then NewRows w w' v R else v = nilS

theorem NewRows.since {w w0 w' : World} {v : Value} {h : List (List Int)} (n : NewRows w w' v h) (hk : w0.heap.size ≤ w.heap.size) : NewRows w0 w' v h :=
  let ⟨g, bs, ho, hg, hbs⟩ := n; ⟨g, bs, ho, by omega, fun i hi => by have := hbs i hi; omega⟩

theorem heapErr_cases (A B C : Int) (h : List (List Int)) : heapErr A B C h = 0 ∨ heapErr A B C h = 2 := by unfold heapErr; split <;> simp

set_option maxRecDepth 100000 in
theorem changed_calls (A B C : Int) (v f : Value) (h R : List (List Int)) (w : World) (hr : RdRows w v h) (hf : Makes f A B C v h R) :
    Calls Try.prog 69 #[boxV A B C, v, f] w fun e w' => ∃ v' err, e = .returned (.tuple #[v', .int .i64 err]) ∧ Kp w w' ∧ ChgRes A B C h R w w' v' err := by
  refine lift69 ?_
  unfold S69
  refine r_box fun b w1 hbw hsz hb hk => ?_
  rw [r_ldRow (n := 3) hb rfl]
  refine r_use fok47 (checked_calls A B C v h w1 (hr.below hk)) rfl ?_
  rintro _ w2 ⟨rfl, k2⟩
  refine ⟨_, rfl, ?_⟩
  have hk2 := Kp.trans hk k2
  rcases heapErr_cases A B C h with he | he
  · simp (disch := omega) only [r_ln, r_pick, r_pickT, r_pickF, r_condT, r_condF, r_gdTT, r_gdFF, r_gdTF, r_gdFT, r_gqTT, r_gqFF, r_gqTF, r_gqFT, r_not, r_lss, r_leq, r_gtr, r_geq, r_eql, r_neq, r_add, r_sub, r_min2, r_max2, r_min3, r_max3, r_fa, r_iaS, r_iaA, r_ex2a, r_ex2b, r_ex3a, r_ex3b, r_ex3c, r_nc, r_keepE, Nat.zero_add, Nat.add_zero, Nat.mul_one, Int.toNat_natCast, toNat_sub1, toNat_add1, decide_true, decide_false, Bool.not_true, Bool.not_false, if_true, if_false, Bool.false_eq_true, reduceCtorEq, he, r_ldRow (n := 3) (block_below hb k2) rfl]
    refine hf he w2 _ (hr.below hk2) fun v' w3 k3 hn => ?_
    exact ⟨v', 0, rfl, Kp.trans hk2 k3, by rw [he], by rw [if_pos rfl]; exact hn.since hk2.size⟩
  · have h20 : ¬ ((2 : Int) = 0) := by decide
    simp (disch := omega) only [r_ln, r_pick, r_pickT, r_pickF, r_condT, r_condF, r_gdTT, r_gdFF, r_gdTF, r_gdFT, r_gqTT, r_gqFF, r_gqTF, r_gqFT, r_not, r_lss, r_leq, r_gtr, r_geq, r_eql, r_neq, r_add, r_sub, r_min2, r_max2, r_min3, r_max3, r_fa, r_iaS, r_iaA, r_ex2a, r_ex2b, r_ex3a, r_ex3b, r_ex3c, r_nc, r_keepE, Nat.zero_add, Nat.add_zero, Nat.mul_one, Int.toNat_natCast, toNat_sub1, toNat_add1, decide_true, decide_false, Bool.not_true, Bool.not_false, if_true, if_false, Bool.false_eq_true, reduceCtorEq, he, h20]
    exact ⟨nilS, 2, rfl, hk2, by rw [he], by rw [if_neg h20]⟩

set_option maxRecDepth 100000 in
theorem complement_calls (A B C : Int) (v : Value) (h : List (List Int)) (w : World) (hr : RdRows w v h) :
    Calls Try.prog 36 #[boxV A B C, v] w fun e w' => ∃ v' err, e = .returned (.tuple #[v', .int .i64 err]) ∧ Kp w w' ∧ ChgRes A B C h (compM A.toNat B.toNat C.toNat h) w w' v' err := by
  refine lift36 ?_
  unfold S36
  refine r_box fun b w1 hbw hsz hb hk => ?_
  rw [r_ldRow (n := 3) hb rfl]
  refine r_use fok69 (changed_calls A B C v _ h _ w1 (hr.below hk) (makes_comp A B C v h)) rfl ?_
  rintro _ w2 ⟨v2, err, rfl, k2, he, hres⟩
  refine ⟨_, rfl, ?_⟩
  simp only [r_ex2a, r_ex2b]
  refine ⟨v2, err, rfl, Kp.trans hk k2, he, ?_⟩
  split at hres
  · rename_i h0; rw [if_pos h0]; exact hres.since hk.size
  · rename_i h0; rw [if_neg h0]; exact hres

set_option maxRecDepth 100000 in
theorem transpose_calls (A B C : Int) (v : Value) (h : List (List Int)) (w : World) (hr : RdRows w v h) :
    Calls Try.prog 37 #[boxV A B C, v] w fun e w' => ∃ v' err, e = .returned (.tuple #[v', .int .i64 err]) ∧ Kp w w' ∧ ChgRes A B C h (transM A.toNat B.toNat h) w w' v' err := by
  refine lift37 ?_
  unfold S37
  refine r_box fun b w1 hbw hsz hb hk => ?_
  rw [r_ldRow (n := 3) hb rfl]
  refine r_use fok69 (changed_calls A B C v _ h _ w1 (hr.below hk) (makes_trans A B C v h)) rfl ?_
  rintro _ w2 ⟨v2, err, rfl, k2, he, hres⟩
  refine ⟨_, rfl, ?_⟩
  simp only [r_ex2a, r_ex2b]
  refine ⟨v2, err, rfl, Kp.trans hk k2, he, ?_⟩
  split at hres
  · rename_i h0; rw [if_pos h0]; exact hres.since hk.size
  · rename_i h0; rw [if_neg h0]; exact hres

set_option maxRecDepth 100000 in
theorem turnf_calls (A B C : Int) (v : Value) (h : List (List Int)) (w : World) (hr : RdRows w v h) :
    Calls Try.prog 38 #[boxV A B C, v] w fun e w' => ∃ v' err, e = .returned (.tuple #[v', .int .i64 err]) ∧ Kp w w' ∧ ChgRes A B C h (turnM A.toNat C.toNat h) w w' v' err := by
  refine lift38 ?_
  unfold S38
  refine r_box fun b w1 hbw hsz hb hk => ?_
  rw [r_ldRow (n := 3) hb rfl]
  refine r_use fok69 (changed_calls A B C v _ h _ w1 (hr.below hk) (makes_turn A B C v h)) rfl ?_
  rintro _ w2 ⟨v2, err, rfl, k2, he, hres⟩
  refine ⟨_, rfl, ?_⟩
  simp only [r_ex2a, r_ex2b]
  refine ⟨v2, err, rfl, Kp.trans hk k2, he, ?_⟩
  split at hres
  · rename_i h0; rw [if_pos h0]; exact hres.since hk.size
  · rename_i h0; rw [if_neg h0]; exact hres

end Go.Proofs.Ytaephdjmpmbfpaa
