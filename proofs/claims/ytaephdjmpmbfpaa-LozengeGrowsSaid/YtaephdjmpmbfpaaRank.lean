/- Contracts: checked, Rank. -/
import Derived.Test.YtaephdjmpmbfpaaWays
set_option linter.all false
namespace Go.Proofs.Ytaephdjmpmbfpaa
open Go.Lf Go.RowKit Go.Hp

/-- The row above row i. -/
def lastM (B : Nat) (C : Int) (h : List (List Int)) (i : Nat) : List Int := if i = 0 then topRow B C else row4 (h.getD (i - 1) [])
def lessF (B n : Nat) (own r : List Int) : Int := if cmpL r own < 0 then waysM B n r else 0
def rankRow (B n : Nat) (last own : List Int) : Int := ((belowM B last).map (lessF B n own)).sum
def rankM (A B : Nat) (C : Int) (h : List (List Int)) : Nat → Int := sumTo fun i => rankRow B (A - 1 - i) (lastM B C h i) (row4 (h.getD i []))


/-- The error for a heap that is none. -/
def heapErr (A B C : Int) (h : List (List Int)) : Int := if validB A B C = true ∧ heapOk A B C h = true then 0 else 2

set_option maxRecDepth 100000 in
theorem checked_calls (A B C : Int) (v : Value) (h : List (List Int)) (w : World) (hr : RdRows w v h) : Calls Try.prog 47 #[boxV A B C, v] w fun e w' => e = .returned (.int .i64 (heapErr A B C h)) ∧ Kp w w' := by
  refine lift47 ?_
  unfold S47
  refine r_box fun b w1 hbw hsz hb hk => ?_
  simp (disch := omega) only [r_ln, r_pick, r_pickT, r_pickF, r_condT, r_condF, r_gdTT, r_gdFF, r_gdTF, r_gdFT, r_gqTT, r_gqFF, r_gqTF, r_gqFT, r_not, r_lss, r_leq, r_gtr, r_geq, r_eql, r_neq, r_add, r_sub, r_min2, r_max2, r_min3, r_max3, r_fa, r_iaS, r_iaA, r_ex2a, r_ex2b, r_ex3a, r_ex3b, r_ex3c, r_nc, r_keepE, Nat.zero_add, Nat.add_zero, Nat.mul_one, Int.toNat_natCast, toNat_sub1, toNat_add1, decide_true, decide_false, Bool.not_true, Bool.not_false, if_true, if_false, Bool.false_eq_true, reduceCtorEq, r_ldRow (n := 3) hb rfl]
  refine r_use fok58 (valid_calls A B C w1) rfl ?_
  rintro e w2 ⟨rfl, hk2⟩
  refine ⟨_, rfl, ?_⟩
  have hkw2 := Kp.trans hk hk2
  have hb2 := block_below hb hk2
  by_cases hv : validB A B C = true
  case neg =>
    have hv' : validB A B C = false := by simpa using hv
    simp (disch := omega) only [r_ln, r_pick, r_pickT, r_pickF, r_condT, r_condF, r_gdTT, r_gdFF, r_gdTF, r_gdFT, r_gqTT, r_gqFF, r_gqTF, r_gqFT, r_not, r_lss, r_leq, r_gtr, r_geq, r_eql, r_neq, r_add, r_sub, r_min2, r_max2, r_min3, r_max3, r_fa, r_iaS, r_iaA, r_ex2a, r_ex2b, r_ex3a, r_ex3b, r_ex3c, r_nc, r_keepE, Nat.zero_add, Nat.add_zero, Nat.mul_one, Int.toNat_natCast, toNat_sub1, toNat_add1, decide_true, decide_false, Bool.not_true, Bool.not_false, if_true, if_false, Bool.false_eq_true, reduceCtorEq, hv']
    exact ⟨by simp [heapErr, hv'], hkw2⟩
  simp (disch := omega) only [r_ln, r_pick, r_pickT, r_pickF, r_condT, r_condF, r_gdTT, r_gdFF, r_gdTF, r_gdFT, r_gqTT, r_gqFF, r_gqTF, r_gqFT, r_not, r_lss, r_leq, r_gtr, r_geq, r_eql, r_neq, r_add, r_sub, r_min2, r_max2, r_min3, r_max3, r_fa, r_iaS, r_iaA, r_ex2a, r_ex2b, r_ex3a, r_ex3b, r_ex3c, r_nc, r_keepE, Nat.zero_add, Nat.add_zero, Nat.mul_one, Int.toNat_natCast, toNat_sub1, toNat_add1, decide_true, decide_false, Bool.not_true, Bool.not_false, if_true, if_false, Bool.false_eq_true, reduceCtorEq, hv, r_ldRow (n := 3) hb2 rfl]
  refine r_use fok67 (is_calls A B C v h w2 (hr.below hkw2)) rfl ?_
  rintro e w3 ⟨rfl, hk3⟩
  refine ⟨_, rfl, ?_⟩
  by_cases ho : heapOk A B C h = true
  · simp (disch := omega) only [r_ln, r_pick, r_pickT, r_pickF, r_condT, r_condF, r_gdTT, r_gdFF, r_gdTF, r_gdFT, r_gqTT, r_gqFF, r_gqTF, r_gqFT, r_not, r_lss, r_leq, r_gtr, r_geq, r_eql, r_neq, r_add, r_sub, r_min2, r_max2, r_min3, r_max3, r_fa, r_iaS, r_iaA, r_ex2a, r_ex2b, r_ex3a, r_ex3b, r_ex3c, r_nc, r_keepE, Nat.zero_add, Nat.add_zero, Nat.mul_one, Int.toNat_natCast, toNat_sub1, toNat_add1, decide_true, decide_false, Bool.not_true, Bool.not_false, if_true, if_false, Bool.false_eq_true, reduceCtorEq, ho]
    exact ⟨by simp [heapErr, hv, ho], Kp.trans hkw2 hk3⟩
  · have ho' : heapOk A B C h = false := by simpa using ho
    simp (disch := omega) only [r_ln, r_pick, r_pickT, r_pickF, r_condT, r_condF, r_gdTT, r_gdFF, r_gdTF, r_gdFT, r_gqTT, r_gqFF, r_gqTF, r_gqFT, r_not, r_lss, r_leq, r_gtr, r_geq, r_eql, r_neq, r_add, r_sub, r_min2, r_max2, r_min3, r_max3, r_fa, r_iaS, r_iaA, r_ex2a, r_ex2b, r_ex3a, r_ex3b, r_ex3c, r_nc, r_keepE, Nat.zero_add, Nat.add_zero, Nat.mul_one, Int.toNat_natCast, toNat_sub1, toNat_add1, decide_true, decide_false, Bool.not_true, Bool.not_false, if_true, if_false, Bool.false_eq_true, reduceCtorEq, ho']
    exact ⟨by simp [heapErr, ho'], Kp.trans hkw2 hk3⟩

theorem r_slA4 (b : Nat) (K : Value → Prop) : slA 4 1 (.pointer (some ⟨b, 0, none⟩)) none none K = K (.slice (some ⟨b, 0, none⟩) 4 4) := rfl

theorem rd_block {w : World} {b : Nat} {t : TypeId} {fr : Nat × Nat} {r : List Int} (h : w.heap[b]? = some (.cells (intCells r).toArray t fr)) (h4 : r.length = 4) : RdInts w (.slice (some ⟨b, 0, none⟩) 4 4) r := by
  refine ⟨_, 4, by rw [h4], by omega, fun _ => ⟨b, 0, rfl, fun i hi => ?_⟩⟩
  rw [Nat.zero_add, cell_row h]
  simp [intCells, hi]

theorem map_cells_ne {w : World} {m b c : Nat} {es : Array MapEntry} {cs : Array Value} {t : TypeId} {fr : Nat × Nat} (h1 : w.heap[m]? = some (.map es c)) (h2 : w.heap[b]? = some (.cells cs t fr)) : m ≠ b := by
  rintro rfl
  rw [h1] at h2
  cases h2

theorem row4_range {l : List Int} {M : Int} (h0 : 0 ≤ M) (h : ∀ k, 0 ≤ l.getD k 0 ∧ l.getD k 0 ≤ M) (k : Nat) : 0 ≤ (row4 l).getD k 0 ∧ (row4 l).getD k 0 ≤ M := by
  unfold row4
  rw [List.getD_eq_getElem?_getD, List.getElem?_append]
  split
  · have := h k; rwa [List.getD_eq_getElem?_getD] at this
  · simp only [List.getElem?_replicate]
    split <;> simp [h0]

theorem lessF_bound {B n : Nat} {own : List Int} (hB : B ≤ 4) (hn : n ≤ 4) {r : List Int} (h : ∀ k, r.getD k 0 ≤ 4) : 0 ≤ lessF B n own r ∧ lessF B n own r ≤ 152587890625 := by
  have := ways_le hB hn h
  unfold lessF
  split <;> omega

theorem rankRow_bound {B n : Nat} {last own : List Int} (hB : B ≤ 4) (hn : n ≤ 4) (h : ∀ k, last.getD k 0 ≤ 4) : 0 ≤ rankRow B n last own ∧ rankRow B n last own ≤ 95367431640625 := by
  have h1 := sum_bound (f := lessF B n own) (b := 152587890625) (belowM B last) fun q hq => lessF_bound hB hn fun k => ((belowM_fine (by decide) h q hq).2 k).2
  have h2 := belowM_count hB h
  unfold rankRow
  omega

set_option maxRecDepth 100000 in
theorem rank_calls (A B C : Int) (v : Value) (h : List (List Int)) (w : World) (hr : RdRows w v h) :
    Calls Try.prog 18 #[boxV A B C, v] w fun e w' => e = .returned (.tuple #[.int .i64 (if heapErr A B C h = 0 then rankM A.toNat B.toNat C h A.toNat else 0), .int .i64 (heapErr A B C h)]) ∧ Kp w w' := by
  refine lift18 ?_
  unfold S18
  refine r_box fun b w1 hbw hsz hb hk => ?_
  simp (disch := omega) only [r_ln, r_pick, r_pickT, r_pickF, r_condT, r_condF, r_gdTT, r_gdFF, r_gdTF, r_gdFT, r_gqTT, r_gqFF, r_gqTF, r_gqFT, r_not, r_lss, r_leq, r_gtr, r_geq, r_eql, r_neq, r_add, r_sub, r_min2, r_max2, r_min3, r_max3, r_fa, r_iaS, r_iaA, r_ex2a, r_ex2b, r_ex3a, r_ex3b, r_ex3c, r_nc, r_keepE, Nat.zero_add, Nat.add_zero, Nat.mul_one, Int.toNat_natCast, toNat_sub1, toNat_add1, decide_true, decide_false, Bool.not_true, Bool.not_false, if_true, if_false, Bool.false_eq_true, reduceCtorEq, r_ldRow (n := 3) hb rfl]
  refine r_use fok47 (checked_calls A B C v h w1 (hr.below hk)) rfl ?_
  rintro e w2 ⟨rfl, hk2⟩
  refine ⟨_, rfl, ?_⟩
  have hkw2 := Kp.trans hk hk2
  have hb2 := block_below hb hk2
  by_cases hv : validB A B C = true ∧ heapOk A B C h = true
  case neg =>
    have he : heapErr A B C h = 2 := by simp only [heapErr, if_neg hv]
    have hne : ¬ ((2 : Int) = 0) := by decide
    simp (disch := omega) only [r_ln, r_pick, r_pickT, r_pickF, r_condT, r_condF, r_gdTT, r_gdFF, r_gdTF, r_gdFT, r_gqTT, r_gqFF, r_gqTF, r_gqFT, r_not, r_lss, r_leq, r_gtr, r_geq, r_eql, r_neq, r_add, r_sub, r_min2, r_max2, r_min3, r_max3, r_fa, r_iaS, r_iaA, r_ex2a, r_ex2b, r_ex3a, r_ex3b, r_ex3c, r_nc, r_keepE, Nat.zero_add, Nat.add_zero, Nat.mul_one, Int.toNat_natCast, toNat_sub1, toNat_add1, decide_true, decide_false, Bool.not_true, Bool.not_false, if_true, if_false, Bool.false_eq_true, reduceCtorEq, he, hne]
    exact ⟨trivial, hkw2⟩
  have he : heapErr A B C h = 0 := by simp only [heapErr, if_pos hv]
  obtain ⟨hv, hok⟩ := hv
  obtain ⟨a, b', c, rfl, rfl, rfl, h1, h2, h3, hb4, h5, h6⟩ := validB_nat hv
  have hheap := heapOk_iff.1 hok
  have hlen : h.length = a := by have := hheap.len; omega
  have hrl : ∀ i, i < a → (h.getD i []).length = b' := fun i hi => by have := hheap.row i (by omega); omega
  have hrange : ∀ i k, i < a → 0 ≤ (h.getD i []).getD k 0 ∧ (h.getD i []).getD k 0 ≤ 4 := fun i k hi => by
    by_cases hkb : k < b'
    · have g1 := hheap.pos i k (by omega) (by omega)
      have g2 := hheap.top i k (by omega) (by omega)
      unfold hat at g1 g2
      omega
    · rw [List.getD_eq_getElem?_getD, List.getElem?_eq_none (by rw [hrl i hi]; omega)]
      simp
  have hlast4 : ∀ i, i ≤ a → (lastM b' c h i).length = 4 := fun i hi => by
    unfold lastM
    split
    · exact topRow_length hb4
    · exact row4_length (by rw [hrl (i - 1) (by omega)]; exact hb4)
  have hlastR : ∀ i, i ≤ a → ∀ k, 0 ≤ (lastM b' c h i).getD k 0 ∧ (lastM b' c h i).getD k 0 ≤ 4 := fun i hi k => by
    unfold lastM
    split
    · exact topRow_range (by omega) (by omega) k
    · exact row4_range (by decide) (fun k => hrange (i - 1) k (by omega)) k
  have hsum : ∀ i, i ≤ a → 0 ≤ rankM a b' c h i ∧ rankM a b' c h i ≤ i * 95367431640625 := by
    intro i
    induction i with
    | zero => intro _; simp [rankM, sumTo]
    | succ i ih =>
      intro hi
      have g1 := ih (by omega)
      have g2 := rankRow_bound (own := row4 (h.getD i [])) hb4 (show a - 1 - i ≤ 4 by omega) fun k => (hlastR i (by omega) k).2
      have e : rankM a b' c h (i + 1) = rankM a b' c h i + rankRow b' (a - 1 - i) (lastM b' c h i) (row4 (h.getD i [])) := rfl
      rw [e]; omega
  simp (disch := omega) only [he, r_neq, decide_true, Bool.not_true, r_condF]
  refine r_drew fun y0 hk0 _ => ?_
  have hkw0 := Kp.trans hkw2 hk0
  have hby0 := block_below hb2 hk0
  have hblt := block_lt hby0
  refine r_join3 (fun t7 t8 t9 w' => ∃ b7 b9 m, t7 = ptrV b7 ∧ t8 = .int .i64 0 ∧ t9 = ptrV b9 ∧ Kp y0 w' ∧ w'.heap[b7]? = some (.cells (counterV a b' c m).cells 77 (0, 0)) ∧ w'.heap[b9]? = some (.cells (intCells (topRow b' c)).toArray 80 (0, 0)) ∧
    MemoAt w' m (knownF b') ∧ y0.heap.size ≤ b7 ∧ y0.heap.size ≤ b9 ∧ y0.heap.size ≤ m ∧ b7 ≠ b9 ∧ m ≠ b7 ∧ m ≠ b9) ?_ ?_
  rotate_left
  · intro k hkk
    rw [r_ldRow (n := 3) hby0 rfl, r_ldRow (n := 3) hby0 rfl, agg_cells]
    have fin : ∀ (w' : World) (b7 b9 m : Nat), Kp y0 w' → w'.heap[b7]? = some (.cells (Value.agg #[.int .i64 0, .int .i64 0, .int .i64 0, .map none]).cells 77 (0, 0)) → w'.heap[b9]? = some (.cells (Value.agg #[.int .i64 0, .int .i64 0, .int .i64 0, .int .i64 0]).cells 80 (0, 0)) →
        w'.heap[m]? = some (.map #[] 0) → y0.heap.size ≤ b7 ∧ y0.heap.size ≤ b9 ∧ y0.heap.size ≤ m →
        stW Try.prog 77 (ptrV b7) (counterV a b' c m) w' fun w => stW Try.prog 80 (ptrV b9) (rowV (topRow b' c)) w fun w => k (ptrV b7) (.int .i64 0) (ptrV b9) w := by
      intro w' b7 b9 m hx g7 g9 gm hge
      have n79 : b7 ≠ b9 := by rintro rfl; rw [g7] at g9; cases g9
      have nm7 := map_cells_ne gm g7
      have nm9 := map_cells_ne gm g9
      refine r_stAll (n := 4) (ty := 77) (by kernel_rfl) rfl (by intro u hu; simp [Value.cells] at hu; rcases hu with rfl | rfl | rfl | rfl <;> rfl) g7 rfl fun w5 hc5 hs5 hb5 => ?_
      refine r_stAll (n := 4) (ty := 80) (by kernel_rfl) (by rw [rowV_size]; exact topRow_length hb4) (rowV_one _) (hc5.at g9 (Ne.symm n79)) rfl fun w6 hc6 hs6 hb6 => ?_
      exact hkk _ _ _ _ ⟨b7, b9, m, rfl, rfl, rfl, Kp.of_chg (Kp.of_chg hx hc5 fun i e => by omega) hc6 fun i e => by omega, hc6.at hb5 n79, hb6, memo_empty _ (hc6.at (hc5.at gm nm7) nm9), hge.1, hge.2.1, hge.2.2, n79, nm7, nm9⟩
    refine ⟨?_, ?_, ?_, trivial⟩
    · refine r_use fok52 (count_calls a b' c y0) rfl ?_
      rintro _ y1 ⟨m, rfl, x1, hm0, gm⟩
      refine ⟨_, rfl, x1, ?_⟩
      refine ⟨?_, ?_, ?_, trivial⟩
      · refine r_use fok53 (top_calls a c b' y1 hb4) rfl ?_
        rintro _ y2 ⟨rfl, x2⟩
        refine ⟨_, rfl, x2, ?_⟩
        refine ⟨?_, ?_, trivial⟩
        · refine r_box fun b7 y3 e7 s7 g7 x3 => ⟨x3, ?_⟩
          refine r_box fun b9 y4 e9 s9 g9 x4 => ⟨x4, ?_⟩
          exact fin _ _ _ _ (Kp.trans (Kp.trans (Kp.trans x1 x2) x3) x4) (block_below g7 x4) g9 (block_below gm (Kp.trans (Kp.trans x2 x3) x4)) (by have := Below.size x1; have := Below.size x2; have := Below.size x3; have := Below.size x4; omega)
        · refine r_box fun b9 y3 e9 s9 g9 x3 => ⟨x3, ?_⟩
          refine r_box fun b7 y4 e7 s7 g7 x4 => ⟨x4, ?_⟩
          exact fin _ _ _ _ (Kp.trans (Kp.trans (Kp.trans x1 x2) x3) x4) g7 (block_below g9 x4) (block_below gm (Kp.trans (Kp.trans x2 x3) x4)) (by have := Below.size x1; have := Below.size x2; have := Below.size x3; have := Below.size x4; omega)
      · refine r_box fun b7 y2 e7 s7 g7 x2 => ⟨x2, ?_⟩
        refine ⟨?_, ?_, trivial⟩
        · refine r_use fok53 (top_calls a c b' y2 hb4) rfl ?_
          rintro _ y3 ⟨rfl, x3⟩
          refine ⟨_, rfl, x3, ?_⟩
          refine r_box fun b9 y4 e9 s9 g9 x4 => ⟨x4, ?_⟩
          exact fin _ _ _ _ (Kp.trans (Kp.trans (Kp.trans x1 x2) x3) x4) (block_below g7 (Kp.trans x3 x4)) g9 (block_below gm (Kp.trans (Kp.trans x2 x3) x4)) (by have := Below.size x1; have := Below.size x2; have := Below.size x3; have := Below.size x4; omega)
        · refine r_box fun b9 y3 e9 s9 g9 x3 => ⟨x3, ?_⟩
          refine r_use fok53 (top_calls a c b' y3 hb4) rfl ?_
          rintro _ y4 ⟨rfl, x4⟩
          refine ⟨_, rfl, x4, ?_⟩
          exact fin _ _ _ _ (Kp.trans (Kp.trans (Kp.trans x1 x2) x3) x4) (block_below g7 (Kp.trans x3 x4)) (block_below g9 x4) (block_below gm (Kp.trans (Kp.trans x2 x3) x4)) (by have := Below.size x1; have := Below.size x2; have := Below.size x3; have := Below.size x4; omega)
      · refine r_box fun b9 y2 e9 s9 g9 x2 => ⟨x2, ?_⟩
        refine ⟨?_, ?_, trivial⟩
        · refine r_use fok53 (top_calls a c b' y2 hb4) rfl ?_
          rintro _ y3 ⟨rfl, x3⟩
          refine ⟨_, rfl, x3, ?_⟩
          refine r_box fun b7 y4 e7 s7 g7 x4 => ⟨x4, ?_⟩
          exact fin _ _ _ _ (Kp.trans (Kp.trans (Kp.trans x1 x2) x3) x4) g7 (block_below g9 (Kp.trans x3 x4)) (block_below gm (Kp.trans (Kp.trans x2 x3) x4)) (by have := Below.size x1; have := Below.size x2; have := Below.size x3; have := Below.size x4; omega)
        · refine r_box fun b7 y3 e7 s7 g7 x3 => ⟨x3, ?_⟩
          refine r_use fok53 (top_calls a c b' y3 hb4) rfl ?_
          rintro _ y4 ⟨rfl, x4⟩
          refine ⟨_, rfl, x4, ?_⟩
          exact fin _ _ _ _ (Kp.trans (Kp.trans (Kp.trans x1 x2) x3) x4) (block_below g7 x4) (block_below g9 (Kp.trans x3 x4)) (block_below gm (Kp.trans (Kp.trans x2 x3) x4)) (by have := Below.size x1; have := Below.size x2; have := Below.size x3; have := Below.size x4; omega)
    · refine r_box fun b7 y1 e7 s7 g7 x1 => ⟨x1, ?_⟩
      refine ⟨?_, ?_, trivial⟩
      · refine r_use fok52 (count_calls a b' c y1) rfl ?_
        rintro _ y2 ⟨m, rfl, x2, hm0, gm⟩
        refine ⟨_, rfl, x2, ?_⟩
        refine ⟨?_, ?_, trivial⟩
        · refine r_use fok53 (top_calls a c b' y2 hb4) rfl ?_
          rintro _ y3 ⟨rfl, x3⟩
          refine ⟨_, rfl, x3, ?_⟩
          refine r_box fun b9 y4 e9 s9 g9 x4 => ⟨x4, ?_⟩
          exact fin _ _ _ _ (Kp.trans (Kp.trans (Kp.trans x1 x2) x3) x4) (block_below g7 (Kp.trans (Kp.trans x2 x3) x4)) g9 (block_below gm (Kp.trans x3 x4)) (by have := Below.size x1; have := Below.size x2; have := Below.size x3; have := Below.size x4; omega)
        · refine r_box fun b9 y3 e9 s9 g9 x3 => ⟨x3, ?_⟩
          refine r_use fok53 (top_calls a c b' y3 hb4) rfl ?_
          rintro _ y4 ⟨rfl, x4⟩
          refine ⟨_, rfl, x4, ?_⟩
          exact fin _ _ _ _ (Kp.trans (Kp.trans (Kp.trans x1 x2) x3) x4) (block_below g7 (Kp.trans (Kp.trans x2 x3) x4)) (block_below g9 x4) (block_below gm (Kp.trans x3 x4)) (by have := Below.size x1; have := Below.size x2; have := Below.size x3; have := Below.size x4; omega)
      · refine r_box fun b9 y2 e9 s9 g9 x2 => ⟨x2, ?_⟩
        refine r_use fok52 (count_calls a b' c y2) rfl ?_
        rintro _ y3 ⟨m, rfl, x3, hm0, gm⟩
        refine ⟨_, rfl, x3, ?_⟩
        refine r_use fok53 (top_calls a c b' y3 hb4) rfl ?_
        rintro _ y4 ⟨rfl, x4⟩
        refine ⟨_, rfl, x4, ?_⟩
        exact fin _ _ _ _ (Kp.trans (Kp.trans (Kp.trans x1 x2) x3) x4) (block_below g7 (Kp.trans (Kp.trans x2 x3) x4)) (block_below g9 (Kp.trans x3 x4)) (block_below gm x4) (by have := Below.size x1; have := Below.size x2; have := Below.size x3; have := Below.size x4; omega)
    · refine r_box fun b9 y1 e9 s9 g9 x1 => ⟨x1, ?_⟩
      refine ⟨?_, ?_, trivial⟩
      · refine r_use fok52 (count_calls a b' c y1) rfl ?_
        rintro _ y2 ⟨m, rfl, x2, hm0, gm⟩
        refine ⟨_, rfl, x2, ?_⟩
        refine ⟨?_, ?_, trivial⟩
        · refine r_use fok53 (top_calls a c b' y2 hb4) rfl ?_
          rintro _ y3 ⟨rfl, x3⟩
          refine ⟨_, rfl, x3, ?_⟩
          refine r_box fun b7 y4 e7 s7 g7 x4 => ⟨x4, ?_⟩
          exact fin _ _ _ _ (Kp.trans (Kp.trans (Kp.trans x1 x2) x3) x4) g7 (block_below g9 (Kp.trans (Kp.trans x2 x3) x4)) (block_below gm (Kp.trans x3 x4)) (by have := Below.size x1; have := Below.size x2; have := Below.size x3; have := Below.size x4; omega)
        · refine r_box fun b7 y3 e7 s7 g7 x3 => ⟨x3, ?_⟩
          refine r_use fok53 (top_calls a c b' y3 hb4) rfl ?_
          rintro _ y4 ⟨rfl, x4⟩
          refine ⟨_, rfl, x4, ?_⟩
          exact fin _ _ _ _ (Kp.trans (Kp.trans (Kp.trans x1 x2) x3) x4) (block_below g7 x4) (block_below g9 (Kp.trans (Kp.trans x2 x3) x4)) (block_below gm (Kp.trans x3 x4)) (by have := Below.size x1; have := Below.size x2; have := Below.size x3; have := Below.size x4; omega)
      · refine r_box fun b7 y2 e7 s7 g7 x2 => ⟨x2, ?_⟩
        refine r_use fok52 (count_calls a b' c y2) rfl ?_
        rintro _ y3 ⟨m, rfl, x3, hm0, gm⟩
        refine ⟨_, rfl, x3, ?_⟩
        refine r_use fok53 (top_calls a c b' y3 hb4) rfl ?_
        rintro _ y4 ⟨rfl, x4⟩
        refine ⟨_, rfl, x4, ?_⟩
        exact fin _ _ _ _ (Kp.trans (Kp.trans (Kp.trans x1 x2) x3) x4) (block_below g7 (Kp.trans x3 x4)) (block_below g9 (Kp.trans (Kp.trans x2 x3) x4)) (block_below gm x4) (by have := Below.size x1; have := Below.size x2; have := Below.size x3; have := Below.size x4; omega)
  rintro _ _ _ z0 ⟨b7, b9, m, rfl, rfl, rfl, hz, g7, g9, gm, l7, l9, lm, n79, nm7, nm9⟩
  obtain ⟨va, vc, rfl, _⟩ := hr.len
  have hbz := block_below hby0 hz
  simp (disch := omega) only [r_ln, r_pick, r_pickT, r_pickF, r_condT, r_condF, r_gdTT, r_gdFF, r_gdTF, r_gdFT, r_gqTT, r_gqFF, r_gqTF, r_gqFT, r_not, r_lss, r_leq, r_gtr, r_geq, r_eql, r_neq, r_add, r_sub, r_min2, r_max2, r_min3, r_max3, r_fa, r_iaS, r_iaA, r_ex2a, r_ex2b, r_ex3a, r_ex3b, r_ex3c, r_nc, r_keepE, Nat.zero_add, Nat.add_zero, Nat.mul_one, Int.toNat_natCast, toNat_sub1, toNat_add1, decide_true, decide_false, Bool.not_true, Bool.not_false, if_true, if_false, Bool.false_eq_true, reduceCtorEq, hlen]
  refine ⟨fun t8 t27 wr => ∃ i : Nat, i ≤ a ∧ t27 = .int .i64 i ∧ t8 = .int .i64 (rankM a b' c h i) ∧ Kp y0 wr ∧ wr.heap[b7]? = some (.cells (counterV a b' c m).cells 77 (0, 0)) ∧ wr.heap[b9]? = some (.cells (intCells (lastM b' c h i)).toArray 80 (0, 0)) ∧ MemoAt wr m (knownF b'),
    fun _ t27 _ => a - (intOf t27).toNat, ⟨0, by omega, rfl, rfl, hz, g7, g9, gm⟩, ?_⟩
  rintro _ _ _ wr ⟨i, hi, rfl, rfl, hkr, g7, g9, gm⟩
  have hbr := block_below hby0 hkr
  have hsi := hsum i hi
  by_cases hlt : i < a
  case neg =>
    have hlt' : ¬ (i : Int) < (a : Int) := by omega
    have e : i = a := by omega
    subst e
    simp (disch := omega) only [r_ln, r_pick, r_pickT, r_pickF, r_condT, r_condF, r_gdTT, r_gdFF, r_gdTF, r_gdFT, r_gqTT, r_gqFF, r_gqTF, r_gqFT, r_not, r_lss, r_leq, r_gtr, r_geq, r_eql, r_neq, r_add, r_sub, r_min2, r_max2, r_min3, r_max3, r_fa, r_iaS, r_iaA, r_ex2a, r_ex2b, r_ex3a, r_ex3b, r_ex3c, r_nc, r_keepE, Nat.zero_add, Nat.add_zero, Nat.mul_one, Int.toNat_natCast, toNat_sub1, toNat_add1, decide_true, decide_false, Bool.not_true, Bool.not_false, if_true, if_false, Bool.false_eq_true, reduceCtorEq, hlt']
    exact ⟨by simp [he], Kp.trans hkw0 hkr⟩
  have hlt' : (i : Int) < (a : Int) := by omega
  have hrr := hr.below (Kp.trans hkw0 hkr)
  obtain ⟨gb, goff, _, rv, e1, hci, hrow⟩ := hrr.row (i := i) (by omega)
  cases e1
  simp (disch := omega) only [r_ln, r_pick, r_pickT, r_pickF, r_condT, r_condF, r_gdTT, r_gdFF, r_gdTF, r_gdFT, r_gqTT, r_gqFF, r_gqTF, r_gqFT, r_not, r_lss, r_leq, r_gtr, r_geq, r_eql, r_neq, r_add, r_sub, r_min2, r_max2, r_min3, r_max3, r_fa, r_iaS, r_iaA, r_ex2a, r_ex2b, r_ex3a, r_ex3b, r_ex3c, r_nc, r_keepE, Nat.zero_add, Nat.add_zero, Nat.mul_one, Int.toNat_natCast, toNat_sub1, toNat_add1, decide_true, decide_false, Bool.not_true, Bool.not_false, if_true, if_false, Bool.false_eq_true, reduceCtorEq, hlt', r_ld hci]
  refine r_use fok54 (rowed_calls rv (h.getD i []) wr hrow (by rw [hrl i hlt]; omega) (by rw [hrl i hlt]; omega)) rfl ?_
  rintro _ u1 ⟨rfl, hu1⟩
  refine ⟨_, rfl, ?_⟩
  have hown4 : (row4 (h.getD i [])).length = 4 := row4_length (by rw [hrl i hlt]; exact hb4)
  refine r_box fun b12 u2 e12 s12 g12 hu2 => ?_
  refine r_stAll (n := 4) (ty := 80) (by kernel_rfl) (by rw [rowV_size]; exact hown4) (rowV_one _) g12 rfl fun u3 hc3 hs3 g12' => ?_
  have hku3 : Kp wr u3 := Kp.of_chg (Kp.trans hu1 hu2) hc3 fun i e => by have := hu1.size; omega
  have hb12 : wr.heap.size ≤ b12 := by have := hu1.size; omega
  have hbu3 := block_below hbr hku3
  have g7u := block_below g7 hku3
  have g9u := block_below g9 hku3
  have gmu := gm.kp hku3
  have hl4i := hlast4 i hi
  simp (disch := omega) only [r_ln, r_pick, r_pickT, r_pickF, r_condT, r_condF, r_gdTT, r_gdFF, r_gdTF, r_gdFT, r_gqTT, r_gqFF, r_gqTF, r_gqFT, r_not, r_lss, r_leq, r_gtr, r_geq, r_eql, r_neq, r_add, r_sub, r_min2, r_max2, r_min3, r_max3, r_fa, r_iaS, r_iaA, r_ex2a, r_ex2b, r_ex3a, r_ex3b, r_ex3c, r_nc, r_keepE, Nat.zero_add, Nat.add_zero, Nat.mul_one, Int.toNat_natCast, toNat_sub1, toNat_add1, decide_true, decide_false, Bool.not_true, Bool.not_false, if_true, if_false, Bool.false_eq_true, reduceCtorEq, r_ldRow (n := 3) hbu3 rfl, r_ldRow (n := 4) g9u (by simp [intCells, hl4i]), agg_cells]
  refine r_use fok55 (below_calls a c b' (lastM b' c h i) u3 hb4 hl4i fun k => by have := hlastR i hi k; omega) rfl ?_
  rintro _ u4 ⟨v36, rfl, hu4, ho⟩
  refine ⟨_, rfl, ?_⟩
  have hfr := belowM_fine (B := b') (M := 4) (by decide) fun k => (hlastR i hi k).2
  have hcount := belowM_count (B := b') (ab := lastM b' c h i) hb4 fun k => (hlastR i hi k).2
  have hrstep : rankM a b' c h (i + 1) = rankM a b' c h i + rankRow b' (a - 1 - i) (lastM b' c h i) (row4 (h.getD i [])) := rfl
  have hrrb := rankRow_bound (own := row4 (h.getD i [])) hb4 (show a - 1 - i ≤ 4 by omega) fun k => (hlastR i hi k).2
  unfold rankRow at hrstep hrrb
  have hlnext : lastM b' c h (i + 1) = row4 (h.getD i []) := by simp [lastM]
  have h4 : ∀ r ∈ belowM b' (lastM b' c h i), r.length = 4 := fun r hr => (hfr r hr).1
  have hnn : ∀ q ∈ belowM b' (lastM b' c h i), 0 ≤ lessF b' (a - 1 - i) (row4 (h.getD i [])) q := fun q hq => (lessF_bound hb4 (by omega) fun k => ((hfr q hq).2 k).2).1
  generalize belowM b' (lastM b' c h i) = rows at *
  generalize row4 (h.getD i []) = own at *
  obtain ⟨ra, rc, rfl⟩ := owned_len ho
  simp (disch := omega) only [r_ln, r_pick, r_pickT, r_pickF, r_condT, r_condF, r_gdTT, r_gdFF, r_gdTF, r_gdFT, r_gqTT, r_gqFF, r_gqTF, r_gqFT, r_not, r_lss, r_leq, r_gtr, r_geq, r_eql, r_neq, r_add, r_sub, r_min2, r_max2, r_min3, r_max3, r_fa, r_iaS, r_iaA, r_ex2a, r_ex2b, r_ex3a, r_ex3b, r_ex3c, r_nc, r_keepE, Nat.zero_add, Nat.add_zero, Nat.mul_one, Int.toNat_natCast, toNat_sub1, toNat_add1, decide_true, decide_false, Bool.not_true, Bool.not_false, if_true, if_false, Bool.false_eq_true, reduceCtorEq]
  refine ⟨fun t8 t38 wq => ∃ j : Nat, j ≤ rows.length ∧ t38 = .int .i64 j ∧ t8 = .int .i64 (rankM a b' c h i + ((rows.take j).map (lessF b' (a - 1 - i) own)).sum) ∧ Chg (fun k => k = m) u4 wq ∧ MemoAt wq m (knownF b'),
    fun _ t38 _ => rows.length - (intOf t38).toNat, ⟨0, by omega, rfl, by simp, Chg.refl _ _, gmu.kp hu4⟩, ?_⟩
  rintro _ _ _ wq ⟨j, hj, rfl, rfl, hcq, gmq⟩
  have hku4 := Kp.trans hku3 hu4
  have hkyq : Kp y0 wq := Kp.of_chg (Kp.trans hkr hku4) hcq fun i e => by omega
  have g12u4 := block_below g12' hu4
  have n12 : b12 ≠ m := by have := gm.lt; omega
  have g12q := hcq.at g12u4 n12
  have g7q := hcq.at (block_below g7 hku4) (Ne.symm nm7)
  have g9q := hcq.at (block_below g9 hku4) (Ne.symm nm9)
  have hbq := block_below hby0 hkyq
  have hst := sum_take_le hnn j
  by_cases hjt : j < rows.length
  case neg =>
    have hjt' : ¬ (j : Int) < (rows.length : Int) := by omega
    have e : j = rows.length := by omega
    subst e
    rw [List.take_of_length_le (Nat.le_refl _)] at *
    simp (disch := omega) only [r_ln, r_pick, r_pickT, r_pickF, r_condT, r_condF, r_gdTT, r_gdFF, r_gdTF, r_gdFT, r_gqTT, r_gqFF, r_gqTF, r_gqFT, r_not, r_lss, r_leq, r_gtr, r_geq, r_eql, r_neq, r_add, r_sub, r_min2, r_max2, r_min3, r_max3, r_fa, r_iaS, r_iaA, r_ex2a, r_ex2b, r_ex3a, r_ex3b, r_ex3c, r_nc, r_keepE, Nat.zero_add, Nat.add_zero, Nat.mul_one, Int.toNat_natCast, toNat_sub1, toNat_add1, decide_true, decide_false, Bool.not_true, Bool.not_false, if_true, if_false, Bool.false_eq_true, reduceCtorEq, hjt', r_ldRow (n := 4) g12q (by rw [rowV_size]; exact hown4), agg_cells]
    refine r_stAll (n := 4) (ty := 80) (by kernel_rfl) (by rw [rowV_size]; exact hown4) (rowV_one _) g9q (by simp [intCells, hl4i]) fun q1 hcq1 hsq1 g9n => ?_
    refine ⟨⟨i + 1, by omega, by go_num, by rw [hrstep], Kp.of_chg hkyq hcq1 fun i e => by omega, hcq1.at g7q n79, ?_, gmq.chg hcq1 nm9⟩, by simp only [intOf]; omega⟩
    rw [hlnext]; exact g9n
  have hjt' : (j : Int) < (rows.length : Int) := by omega
  have hoq := owns_chg ho hcq fun k hk e => by have := owned_block ho hk; have := gmu.lt; omega
  obtain ⟨g, cap, cur, e, hgb, hg, hgs, hrw⟩ := rows4 hoq h4 hjt
  cases e
  have hmem : rows.getD j [] ∈ rows := by rw [getD_lt _ _ _ hjt]; exact List.getElem_mem hjt
  have hl4 := h4 _ hmem
  simp (disch := omega) only [r_ln, r_pick, r_pickT, r_pickF, r_condT, r_condF, r_gdTT, r_gdFF, r_gdTF, r_gdFT, r_gqTT, r_gqFF, r_gqTF, r_gqFT, r_not, r_lss, r_leq, r_gtr, r_geq, r_eql, r_neq, r_add, r_sub, r_min2, r_max2, r_min3, r_max3, r_fa, r_iaS, r_iaA, r_ex2a, r_ex2b, r_ex3a, r_ex3b, r_ex3c, r_nc, r_keepE, Nat.zero_add, Nat.add_zero, Nat.mul_one, Int.toNat_natCast, toNat_sub1, toNat_add1, decide_true, decide_false, Bool.not_true, Bool.not_false, if_true, if_false, Bool.false_eq_true, reduceCtorEq, hjt', r_ldAt (n := 4) hg hgs hrw]
  refine r_box fun b14 q1 e14 s14 g14 hq1 => ?_
  refine r_stAll (n := 4) (ty := 80) (v := .agg (intCells (rows.getD j [])).toArray) (by kernel_rfl) (by rw [rowV_size]; exact hl4) (rowV_one _) g14 rfl fun q2 hcq2 hsq2 g14' => ?_
  have hkq2 : Kp wq q2 := Kp.of_chg hq1 hcq2 fun i e => by omega
  refine r_drew fun q3 hq3 _ => ?_
  have hkq3 := Kp.trans hkq2 hq3
  have g14q := block_below g14' hq3
  have g12q3 := block_below g12q hkq3
  have g7q3 := block_below g7q hkq3
  have hbq3 := block_below hbq hkq3
  have gmq3 := gmq.kp hkq3
  rw [r_slA4, r_slA4]
  refine r_use fok56 (compare_calls _ _ (rows.getD j []) own q3 (rd_block g14q hl4) (rd_block g12q3 hown4)) rfl ?_
  rintro _ _ ⟨rfl, rfl⟩
  refine ⟨_, rfl, ?_⟩
  have hst1 := sum_take_le hnn (j + 1)
  rw [sum_take_succ hjt] at hst1
  have hnm := hnn _ hmem
  have hcq3 : Chg (fun k => k = m) u4 q3 := hcq.trans (Chg.of_kp hkq3)
  by_cases hc : cmpL (rows.getD j []) own < 0
  case pos =>
    have hle : lessF b' (a - 1 - i) own (rows.getD j []) = waysM b' (a - 1 - i) (rows.getD j []) := by simp only [lessF, if_pos hc]
    rw [hle] at hst1
    obtain ⟨c0, c1, c2⟩ := box3 hbq3
    have ei : (a : Int) - 1 - i = ((a - 1 - i : Nat) : Int) := by omega
    simp (disch := omega) only [r_ln, r_pick, r_pickT, r_pickF, r_condT, r_condF, r_gdTT, r_gdFF, r_gdTF, r_gdFT, r_gqTT, r_gqFF, r_gqTF, r_gqFT, r_not, r_lss, r_leq, r_gtr, r_geq, r_eql, r_neq, r_add, r_sub, r_min2, r_max2, r_min3, r_max3, r_fa, r_iaS, r_iaA, r_ex2a, r_ex2b, r_ex3a, r_ex3b, r_ex3c, r_nc, r_keepE, Nat.zero_add, Nat.add_zero, Nat.mul_one, Int.toNat_natCast, toNat_sub1, toNat_add1, decide_true, decide_false, Bool.not_true, Bool.not_false, if_true, if_false, Bool.false_eq_true, reduceCtorEq, hc, r_ldRow (n := 4) g7q3 rfl, r_ld c0, r_ldRow (n := 4) g14q (by rw [rowV_size]; exact hl4), agg_cells, ei, bd88 _ hl4]
    refine r_join1 (fun t8 w' => t8 = .int .i64 (rankM a b' c h i + ((rows.take (j + 1)).map (lessF b' (a - 1 - i) own)).sum) ∧ Chg (fun k => k = m) u4 w' ∧ MemoAt w' m (knownF b')) ?_ ?_
    · rintro _ w' ⟨rfl, hcw, hmw⟩
      exact ⟨⟨j + 1, by omega, by go_num, rfl, hcw, hmw⟩, by simp only [intOf]; omega⟩
    · intro k hkk
      refine r_use fok57 (ways_calls a c b' m hb4 (a - 1 - i) (rows.getD j []) q3 (by omega) hl4 (fun k => (hfr _ hmem).2 k) gmq3) rfl ?_
      rintro _ q4 ⟨rfl, hm4, hc4⟩
      refine ⟨_, rfl, ?_⟩
      simp (disch := omega) only [r_ln, r_pick, r_pickT, r_pickF, r_condT, r_condF, r_gdTT, r_gdFF, r_gdTF, r_gdFT, r_gqTT, r_gqFF, r_gqTF, r_gqFT, r_not, r_lss, r_leq, r_gtr, r_geq, r_eql, r_neq, r_add, r_sub, r_min2, r_max2, r_min3, r_max3, r_fa, r_iaS, r_iaA, r_ex2a, r_ex2b, r_ex3a, r_ex3b, r_ex3c, r_nc, r_keepE, Nat.zero_add, Nat.add_zero, Nat.mul_one, Int.toNat_natCast, toNat_sub1, toNat_add1, decide_true, decide_false, Bool.not_true, Bool.not_false, if_true, if_false, Bool.false_eq_true, reduceCtorEq]
      refine hkk _ _ ⟨?_, hcq3.trans hc4, hm4⟩
      rw [sum_take_succ hjt, hle, Int.add_assoc]
  · have hle : lessF b' (a - 1 - i) own (rows.getD j []) = 0 := by simp only [lessF, if_neg hc]
    rw [hle] at hst1
    simp (disch := omega) only [r_ln, r_pick, r_pickT, r_pickF, r_condT, r_condF, r_gdTT, r_gdFF, r_gdTF, r_gdFT, r_gqTT, r_gqFF, r_gqTF, r_gqFT, r_not, r_lss, r_leq, r_gtr, r_geq, r_eql, r_neq, r_add, r_sub, r_min2, r_max2, r_min3, r_max3, r_fa, r_iaS, r_iaA, r_ex2a, r_ex2b, r_ex3a, r_ex3b, r_ex3c, r_nc, r_keepE, Nat.zero_add, Nat.add_zero, Nat.mul_one, Int.toNat_natCast, toNat_sub1, toNat_add1, decide_true, decide_false, Bool.not_true, Bool.not_false, if_true, if_false, Bool.false_eq_true, reduceCtorEq, hc]
    refine r_join1 (fun t8 w' => t8 = .int .i64 (rankM a b' c h i + ((rows.take (j + 1)).map (lessF b' (a - 1 - i) own)).sum) ∧ Chg (fun k => k = m) u4 w' ∧ MemoAt w' m (knownF b')) ?_ ?_
    · rintro _ w' ⟨rfl, hcw, hmw⟩
      exact ⟨⟨j + 1, by omega, by go_num, rfl, hcw, hmw⟩, by simp only [intOf]; omega⟩
    · intro k hkk
      refine hkk _ _ ⟨?_, hcq3, gmq3⟩
      rw [sum_take_succ hjt, hle, Int.add_zero]

end Go.Proofs.Ytaephdjmpmbfpaa
