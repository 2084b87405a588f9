/- Squares and levels: triples of integers in memory; when squares are a dissection. Contracts: rect, fits, is, Is of the program. -/
import Derived.Test.YtkdcldbedbagjaaDoorKi
import Derived.Test.YtkdcldbedbagjaaDoorSb
set_option linter.all false
namespace Go.Proofs.YtkdcldbedbagjaaDoor
open Go.Lf Go.RowKit Go.Dt

abbrev T3 := Int × Int × Int
def t3C (p : T3) : List Value := [.int .i64 p.1, .int .i64 p.2.1, .int .i64 p.2.2]
theorem t3C_len (p : T3) : (t3C p).length = 3 := rfl
abbrev t3V (p : T3) : Value := .agg #[.int .i64 p.1, .int .i64 p.2.1, .int .i64 p.2.2]
abbrev RdS (w : World) (v : Value) (l : List T3) : Prop := Rd 3 t3C w v l
theorem t3C_one (p : T3) : ∀ u ∈ t3C p, u.oneCell' = true := by
  intro u hu
  simp only [t3C, List.mem_cons, List.not_mem_nil, or_false] at hu
  rcases hu with rfl | rfl | rfl <;> rfl

theorem tri_at {w : World} {v : Value} {L : List T3} (h : RdS w v L) {i : Nat} (hi : i < L.length) : ∀ K : Value → Prop, (iaS 3 v (.int .i64 i) fun p => ldN 3 w p K) = K (t3V (L.getD i (0, 0, 0))) := fun K => by
  obtain ⟨b, off, cap, e, _, hc⟩ := h.at (List.getElem?_eq_getElem hi)
  have hii : (i : Int).toNat = i := by omega
  rw [e, r_iaS _ _ _ _ _ _ _ (by omega) (by omega), hii, r_ldCells (n := 3) (l := t3C L[i]) rfl hc, getD_lt _ _ _ hi]
  rfl
set_option maxRecDepth 100000 in
theorem st44 {w : World} {b : Nat} {x y z : Value} {p : T3} {K : World → Prop} (h : w.heap[b]? = some (.cells #[x, y, z] 44 (0, 0))) (hk : ∀ w', Chg (fun k => k = b) w w' → w'.heap.size = w.heap.size → w'.heap[b]? = some (.cells #[.int .i64 p.1, .int .i64 p.2.1, .int .i64 p.2.2] 44 (0, 0)) → K w') : stW Tryd.prog 44 (ptrV b) (t3V p) w K :=
  r_stAll (n := 3) (by kernel_rfl) rfl (by intro u hu; simp [Value.cells] at hu; rcases hu with rfl | rfl | rfl <;> rfl) h rfl fun w' h1 h2 h3 => hk w' h1 h2 h3
set_option maxRecDepth 100000 in
theorem st71 {w : World} {b : Nat} {x y z : Value} {p : T3} {K : World → Prop} (h : w.heap[b]? = some (.cells #[x, y, z] 71 (0, 0))) (hk : ∀ w', Chg (fun k => k = b) w w' → w'.heap.size = w.heap.size → w'.heap[b]? = some (.cells #[.int .i64 p.1, .int .i64 p.2.1, .int .i64 p.2.2] 71 (0, 0)) → K w') : stW Tryd.prog 71 (ptrV b) (t3V p) w K :=
  r_stAll (n := 3) (by kernel_rfl) rfl (by intro u hu; simp [Value.cells] at hu; rcases hu with rfl | rfl | rfl <;> rfl) h rfl fun w' h1 h2 h3 => hk w' h1 h2 h3
theorem tri_box {w : World} {b : Nat} {t : TypeId} {p : T3} (h : w.heap[b]? = some (.cells #[.int .i64 p.1, .int .i64 p.2.1, .int .i64 p.2.2] t (0, 0))) (K : Value → Prop) : ldN 3 w (ptrV b) K = K (t3V p) := r_ldRow h rfl
theorem tri_cells {w : World} {b : Nat} {t : TypeId} {p : T3} (h : w.heap[b]? = some (.cells #[.int .i64 p.1, .int .i64 p.2.1, .int .i64 p.2.2] t (0, 0))) : w.cell? ⟨b, 0 + 0, none⟩ = some (.int .i64 p.1) ∧ w.cell? ⟨b, 0 + 1, none⟩ = some (.int .i64 p.2.1) ∧ w.cell? ⟨b, 0 + 2, none⟩ = some (.int .i64 p.2.2) :=
  ⟨by rw [cell_row h]; rfl, by rw [cell_row h]; rfl, by rw [cell_row h]; rfl⟩

/-! ### dissections -/
def rectB (n : Int) : Bool := decide (1 ≤ n ∧ n ≤ 1000)
def fitsB (w h : Int) (s : T3) : Bool := decide (1 ≤ s.2.2 ∧ s.2.2 ≤ w ∧ s.2.2 ≤ h ∧ 0 ≤ s.1 ∧ 0 ≤ s.2.1 ∧ s.1 ≤ w - s.2.2 ∧ s.2.1 ≤ h - s.2.2)
def overB (s o : T3) : Bool := decide (s.1 < o.1 + o.2.2 ∧ o.1 < s.1 + s.2.2 ∧ s.2.1 < o.2.1 + o.2.2 ∧ o.2.1 < s.2.1 + s.2.2)
def area : List T3 → Int
  | [] => 0
  | s :: l => s.2.2 * s.2.2 + area l
def stepB (w h : Int) (L : List T3) (i : Nat) : Bool := fitsB w h (L.getD i (0, 0, 0)) && (L.take i).all fun o => !overB (L.getD i (0, 0, 0)) o
def isB (w h : Int) (L : List T3) : Bool := ((List.range L.length).all fun i => stepB w h L i) && decide (area L = w * h)

theorem area_snoc : ∀ (l : List T3) (s : T3), area (l ++ [s]) = area l + s.2.2 * s.2.2
  | [], s => by simp [area]
  | a :: l, s => by simp only [List.cons_append, area]; rw [area_snoc l s]; omega
theorem isB_bad {w h : Int} {L : List T3} {i : Nat} (hi : i < L.length) (hb : stepB w h L i = false) : isB w h L = false := by
  have : ((List.range L.length).all fun i => stepB w h L i) = false := by
    rw [← Bool.not_eq_true, List.all_eq_true]
    intro h
    rw [h i (List.mem_range.2 hi)] at hb; cases hb
  unfold isB; rw [this]; rfl
theorem isB_good {w h : Int} {L : List T3} (hb : ∀ i, i < L.length → stepB w h L i = true) : isB w h L = decide (area L = w * h) := by
  have : ((List.range L.length).all fun i => stepB w h L i) = true := List.all_eq_true.2 fun i hi => hb i (List.mem_range.1 hi)
  unfold isB; rw [this]; rfl
theorem fits_iff {w h : Int} {s : T3} : fitsB w h s = true ↔ 1 ≤ s.2.2 ∧ s.2.2 ≤ w ∧ s.2.2 ≤ h ∧ 0 ≤ s.1 ∧ 0 ≤ s.2.1 ∧ s.1 ≤ w - s.2.2 ∧ s.2.1 ≤ h - s.2.2 := decide_eq_true_iff
theorem step_fits {w h : Int} {L : List T3} {i : Nat} (hb : stepB w h L i = true) : fitsB w h (L.getD i (0, 0, 0)) = true := by
  unfold stepB at hb; rw [Bool.and_eq_true] at hb; exact hb.1
theorem sq_le {a b : Int} (h0 : 0 ≤ a) (h : a ≤ b) : 0 ≤ a * a ∧ a * a ≤ b * b := ⟨Int.mul_nonneg h0 h0, Int.mul_le_mul h h h0 (Int.le_trans h0 h)⟩
theorem area_small {w h : Int} {L : List T3} (hw : w ≤ 1000) : ∀ {i : Nat}, i ≤ L.length → (∀ k, k < i → stepB w h L k = true) → 0 ≤ area (L.take i) ∧ area (L.take i) ≤ i * 1000000
  | 0, _, _ => by simp [area]
  | i + 1, hi, hb => by
    have h1 := area_small hw (i := i) (by omega) fun k hk => hb k (by omega)
    have h2 := fits_iff.1 (step_fits (hb i (by omega)))
    rw [take_succ' _ _ (by omega), area_snoc, ← getD_lt _ _ (0, 0, 0) (by omega)]
    have h3 := sq_le (a := (L.getD i (0, 0, 0)).2.2) (b := 1000) (by omega) (by omega)
    omega

set_option maxRecDepth 100000 in
theorem rect_calls (n : Int) (w : World) : Calls Tryd.prog 42 #[.int .i64 n] w fun e w' => e = .returned (.bool (rectB n)) ∧ w = w' := by
  refine lift42 ?_
  unfold S42
  by_cases h1 : 1 ≤ n
  · by_cases h2 : n ≤ 1000
    · have hE : rectB n = true := decide_eq_true ⟨h1, h2⟩
      rw [hE]
      simp (disch := omega) only [r_ln, r_pick, r_pickT, r_pickF, r_condT, r_condF, r_gdTT, r_gdFF, r_gdTF, r_gdFT, r_gqTT, r_gqFF, r_gqTF, r_gqFT, r_not, r_lss, r_leq, r_gtr, r_geq, r_eql, r_neq, r_add, r_sub, r_min2, r_max2, r_min3, r_max3, r_fa, r_iaS, r_iaA, r_ex2a, r_ex2b, r_ex3a, r_ex3b, r_ex3c, r_nc, r_keepE, Nat.zero_add, Nat.add_zero, Nat.mul_one, Int.toNat_natCast, toNat_sub1, toNat_add1, decide_true, decide_false, Bool.not_true, Bool.not_false, if_true, if_false, Bool.false_eq_true, reduceCtorEq, decide_eq_true h1, decide_eq_true h2]
      exact ⟨by first | rfl | trivial, by first | rfl | trivial⟩
    · have hE : rectB n = false := decide_eq_false fun h => h2 h.2
      rw [hE]
      simp (disch := omega) only [r_ln, r_pick, r_pickT, r_pickF, r_condT, r_condF, r_gdTT, r_gdFF, r_gdTF, r_gdFT, r_gqTT, r_gqFF, r_gqTF, r_gqFT, r_not, r_lss, r_leq, r_gtr, r_geq, r_eql, r_neq, r_add, r_sub, r_min2, r_max2, r_min3, r_max3, r_fa, r_iaS, r_iaA, r_ex2a, r_ex2b, r_ex3a, r_ex3b, r_ex3c, r_nc, r_keepE, Nat.zero_add, Nat.add_zero, Nat.mul_one, Int.toNat_natCast, toNat_sub1, toNat_add1, decide_true, decide_false, Bool.not_true, Bool.not_false, if_true, if_false, Bool.false_eq_true, reduceCtorEq, decide_eq_true h1, h2]
      exact ⟨by first | rfl | trivial, by first | rfl | trivial⟩
  · have hE : rectB n = false := decide_eq_false fun h => h1 h.1
    rw [hE]
    simp (disch := omega) only [r_ln, r_pick, r_pickT, r_pickF, r_condT, r_condF, r_gdTT, r_gdFF, r_gdTF, r_gdFT, r_gqTT, r_gqFF, r_gqTF, r_gqFT, r_not, r_lss, r_leq, r_gtr, r_geq, r_eql, r_neq, r_add, r_sub, r_min2, r_max2, r_min3, r_max3, r_fa, r_iaS, r_iaA, r_ex2a, r_ex2b, r_ex3a, r_ex3b, r_ex3c, r_nc, r_keepE, Nat.zero_add, Nat.add_zero, Nat.mul_one, Int.toNat_natCast, toNat_sub1, toNat_add1, decide_true, decide_false, Bool.not_true, Bool.not_false, if_true, if_false, Bool.false_eq_true, reduceCtorEq, h1, r_gdU]
    exact ⟨by first | rfl | trivial, by first | rfl | trivial⟩

set_option maxRecDepth 100000 in
set_option maxHeartbeats 1000000 in
theorem fits_calls {W H : Int} {s : T3} (w : World) (hW : rectB W = true) (hH : rectB H = true) : Calls Tryd.prog 64 #[.int .i64 W, .int .i64 H, t3V s] w fun e w' => e = .returned (.bool (fitsB W H s)) ∧ Kp w w' := by
  have hW := of_decide_eq_true hW
  have hH := of_decide_eq_true hH
  refine lift64 ?_
  unfold S64
  refine r_box fun b5 w1 e5 s5 h5 k1 => ?_
  obtain ⟨c0, c1, c2⟩ := tri_cells (p := s) h5
  have mn : ∀ K : Value → Prop, mnQ false [.int .i64 W, .int .i64 H] K = K (.int .i64 (min W H)) := fun K => r_min2 _ _ _
  by_cases g1 : 1 ≤ s.2.2
  case neg =>
    simp (disch := omega) only [r_ln, r_pick, r_pickT, r_pickF, r_condT, r_condF, r_gdTT, r_gdFF, r_gdTF, r_gdFT, r_gqTT, r_gqFF, r_gqTF, r_gqFT, r_not, r_lss, r_leq, r_gtr, r_geq, r_eql, r_neq, r_add, r_sub, r_min2, r_max2, r_min3, r_max3, r_fa, r_iaS, r_iaA, r_ex2a, r_ex2b, r_ex3a, r_ex3b, r_ex3c, r_nc, r_keepE, Nat.zero_add, Nat.add_zero, Nat.mul_one, Int.toNat_natCast, toNat_sub1, toNat_add1, decide_true, decide_false, Bool.not_true, Bool.not_false, if_true, if_false, Bool.false_eq_true, reduceCtorEq, r_gdU, r_ld c2, g1]
    exact ⟨ret_bool (decide_eq_false fun h => g1 h.1).symm, k1⟩
  by_cases g2 : s.2.2 ≤ min W H
  case neg =>
    simp (disch := omega) only [r_ln, r_pick, r_pickT, r_pickF, r_condT, r_condF, r_gdTT, r_gdFF, r_gdTF, r_gdFT, r_gqTT, r_gqFF, r_gqTF, r_gqFT, r_not, r_lss, r_leq, r_gtr, r_geq, r_eql, r_neq, r_add, r_sub, r_min2, r_max2, r_min3, r_max3, r_fa, r_iaS, r_iaA, r_ex2a, r_ex2b, r_ex3a, r_ex3b, r_ex3c, r_nc, r_keepE, Nat.zero_add, Nat.add_zero, Nat.mul_one, Int.toNat_natCast, toNat_sub1, toNat_add1, decide_true, decide_false, Bool.not_true, Bool.not_false, if_true, if_false, Bool.false_eq_true, reduceCtorEq, r_gdU, r_ld c2, decide_eq_true g1, g2]
    exact ⟨ret_bool (decide_eq_false fun h => by omega).symm, k1⟩
  by_cases g3 : 0 ≤ s.1
  case neg =>
    simp (disch := omega) only [r_ln, r_pick, r_pickT, r_pickF, r_condT, r_condF, r_gdTT, r_gdFF, r_gdTF, r_gdFT, r_gqTT, r_gqFF, r_gqTF, r_gqFT, r_not, r_lss, r_leq, r_gtr, r_geq, r_eql, r_neq, r_add, r_sub, r_min2, r_max2, r_min3, r_max3, r_fa, r_iaS, r_iaA, r_ex2a, r_ex2b, r_ex3a, r_ex3b, r_ex3c, r_nc, r_keepE, Nat.zero_add, Nat.add_zero, Nat.mul_one, Int.toNat_natCast, toNat_sub1, toNat_add1, decide_true, decide_false, Bool.not_true, Bool.not_false, if_true, if_false, Bool.false_eq_true, reduceCtorEq, r_gdU, r_ld c2, r_ld c0, decide_eq_true g1, decide_eq_true g2, g3]
    exact ⟨ret_bool (decide_eq_false fun h => by omega).symm, k1⟩
  by_cases g4 : 0 ≤ s.2.1
  case neg =>
    simp (disch := omega) only [r_ln, r_pick, r_pickT, r_pickF, r_condT, r_condF, r_gdTT, r_gdFF, r_gdTF, r_gdFT, r_gqTT, r_gqFF, r_gqTF, r_gqFT, r_not, r_lss, r_leq, r_gtr, r_geq, r_eql, r_neq, r_add, r_sub, r_min2, r_max2, r_min3, r_max3, r_fa, r_iaS, r_iaA, r_ex2a, r_ex2b, r_ex3a, r_ex3b, r_ex3c, r_nc, r_keepE, Nat.zero_add, Nat.add_zero, Nat.mul_one, Int.toNat_natCast, toNat_sub1, toNat_add1, decide_true, decide_false, Bool.not_true, Bool.not_false, if_true, if_false, Bool.false_eq_true, reduceCtorEq, r_gdU, r_ld c2, r_ld c0, r_ld c1, decide_eq_true g1, decide_eq_true g2, decide_eq_true g3, g4]
    exact ⟨ret_bool (decide_eq_false fun h => by omega).symm, k1⟩
  by_cases g5 : s.1 ≤ W - s.2.2
  case neg =>
    simp (disch := omega) only [r_ln, r_pick, r_pickT, r_pickF, r_condT, r_condF, r_gdTT, r_gdFF, r_gdTF, r_gdFT, r_gqTT, r_gqFF, r_gqTF, r_gqFT, r_not, r_lss, r_leq, r_gtr, r_geq, r_eql, r_neq, r_add, r_sub, r_min2, r_max2, r_min3, r_max3, r_fa, r_iaS, r_iaA, r_ex2a, r_ex2b, r_ex3a, r_ex3b, r_ex3c, r_nc, r_keepE, Nat.zero_add, Nat.add_zero, Nat.mul_one, Int.toNat_natCast, toNat_sub1, toNat_add1, decide_true, decide_false, Bool.not_true, Bool.not_false, if_true, if_false, Bool.false_eq_true, reduceCtorEq, r_gdU, r_ld c2, r_ld c0, r_ld c1, decide_eq_true g1, decide_eq_true g2, decide_eq_true g3, decide_eq_true g4, g5]
    exact ⟨ret_bool (decide_eq_false fun h => by omega).symm, k1⟩
  by_cases g6 : s.2.1 ≤ H - s.2.2
  · simp (disch := omega) only [r_ln, r_pick, r_pickT, r_pickF, r_condT, r_condF, r_gdTT, r_gdFF, r_gdTF, r_gdFT, r_gqTT, r_gqFF, r_gqTF, r_gqFT, r_not, r_lss, r_leq, r_gtr, r_geq, r_eql, r_neq, r_add, r_sub, r_min2, r_max2, r_min3, r_max3, r_fa, r_iaS, r_iaA, r_ex2a, r_ex2b, r_ex3a, r_ex3b, r_ex3c, r_nc, r_keepE, Nat.zero_add, Nat.add_zero, Nat.mul_one, Int.toNat_natCast, toNat_sub1, toNat_add1, decide_true, decide_false, Bool.not_true, Bool.not_false, if_true, if_false, Bool.false_eq_true, reduceCtorEq, r_gdU, r_ld c2, r_ld c0, r_ld c1, decide_eq_true g1, decide_eq_true g2, decide_eq_true g3, decide_eq_true g4, decide_eq_true g5, decide_eq_true g6]
    exact ⟨ret_bool (decide_eq_true (by omega)).symm, k1⟩
  · simp (disch := omega) only [r_ln, r_pick, r_pickT, r_pickF, r_condT, r_condF, r_gdTT, r_gdFF, r_gdTF, r_gdFT, r_gqTT, r_gqFF, r_gqTF, r_gqFT, r_not, r_lss, r_leq, r_gtr, r_geq, r_eql, r_neq, r_add, r_sub, r_min2, r_max2, r_min3, r_max3, r_fa, r_iaS, r_iaA, r_ex2a, r_ex2b, r_ex3a, r_ex3b, r_ex3c, r_nc, r_keepE, Nat.zero_add, Nat.add_zero, Nat.mul_one, Int.toNat_natCast, toNat_sub1, toNat_add1, decide_true, decide_false, Bool.not_true, Bool.not_false, if_true, if_false, Bool.false_eq_true, reduceCtorEq, r_gdU, r_ld c2, r_ld c0, r_ld c1, decide_eq_true g1, decide_eq_true g2, decide_eq_true g3, decide_eq_true g4, decide_eq_true g5, g6]
    exact ⟨ret_bool (decide_eq_false fun h => by omega).symm, k1⟩

theorem Rd.to {α : Type} {m : Nat} {enc : α → List Value} {w : World} {v : Value} {l : List α} (h : Rd m enc w v l) {i : Nat} (hi : i ≤ l.length) :
    ∃ u, (∀ K : Value → Prop, slS m v none (some (.int .i64 i)) K = K u) ∧ (∀ K : Value → Prop, ln1 u K = K (.int .i64 i)) ∧ Rd m enc w u (l.take i) := by
  obtain ⟨a, c, e, hc⟩ := h.len
  rw [e] at h
  have hii : (i : Int).toNat = i := by omega
  exact ⟨.slice a i c, fun K => by rw [e, r_slTo (by omega) (by omega), hii], fun K => rfl, h.take hi⟩

set_option maxRecDepth 100000 in
set_option maxHeartbeats 2000000 in
theorem r43_1 {W H : Int} {L : List T3} {i b9 : Nat} {A : Int} {t26 : Value} {w0 : World} {next : Value → Value → World → Prop} {R : Ending → World → Prop} (hW : rectB W = true) (hH : rectB H = true) (hi : i < L.length) (hl : L.length ≤ 16) (hr : RdS w0 t26 (L.take i)) (hb : ∀ k, k < i → stepB W H L k = true) (hf : fitsB W H (L.getD i (0, 0, 0)) = true)
    (h9 : w0.heap[b9]? = some (.cells #[.int .i64 (L.getD i (0, 0, 0)).1, .int .i64 (L.getD i (0, 0, 0)).2.1, .int .i64 (L.getD i (0, 0, 0)).2.2] 44 (0, 0))) (hA : A = area (L.take i))
    (hnext : ∀ w', Kp w0 w' → stepB W H L i = true → next (.int .i64 (area (L.take (i + 1)))) (.int .i64 ((i : Int) + 1)) w') (hR : ∀ w', Kp w0 w' → stepB W H L i = false → R (.returned (.bool false)) w') :
    S43L1 (.int .i64 A) (ptrV b9) (.int .i64 i) t26 (.int .i64 i) next R w0 := by
  have hW' := of_decide_eq_true hW
  have hH' := of_decide_eq_true hH
  have hf' := fits_iff.1 hf
  have hlt0 : (L.take i).length = i := by rw [List.length_take]; omega
  unfold S43L1
  refine ⟨fun t wr => ∃ k : Nat, k ≤ i ∧ t = .int .i64 k ∧ (∀ o ∈ L.take k, overB (L.getD i (0, 0, 0)) o = false) ∧ Kp w0 wr, fun t _ => i - (intOf t).toNat, ⟨0, by omega, rfl, by simp, Kp.refl _⟩, ?_⟩
  rintro _ _ wr ⟨k, hk, rfl, hno, kr⟩
  have h9r := block_below h9 kr
  by_cases hlt : k < i
  case neg =>
    have hlt' : ¬ (k : Int) < (i : Int) := by omega
    obtain rfl : k = i := by omega
    have hst : stepB W H L k = true := by
      unfold stepB
      rw [hf, Bool.true_and, List.all_eq_true]
      intro o ho
      rw [hno o ho]; rfl
    have hsm := area_small (L := L) (h := H) (i := k) (w := W) hW'.2 (by omega) hb
    have hsn : area (L.take (k + 1)) = A + (L.getD k (0, 0, 0)).2.2 * (L.getD k (0, 0, 0)).2.2 := by
      rw [take_succ' _ _ hi, area_snoc, hA, ← getD_lt _ _ (0, 0, 0) hi]
    obtain ⟨c0, c1, c2⟩ := tri_cells (p := L.getD k (0, 0, 0)) h9r
    have h3 := sq_le (a := (L.getD k (0, 0, 0)).2.2) (b := 1000) (by omega) (by omega)
    simp only [r_lss, hlt', decide_false, r_condF]
    rw [r_fa, r_ld c2, r_fa, r_ld c2, r_mul _ _ (by omega) (by omega), r_add _ _ (by omega) (by omega), r_add _ _ (by omega) (by omega), ← hsn]
    exact hnext wr kr hst
  have hlt' : (k : Int) < (i : Int) := by omega
  simp only [r_lss, decide_eq_true hlt', r_condT]
  have hgk : (L.take i).getD k (0, 0, 0) = L.getD k (0, 0, 0) := by
    rw [List.getD_eq_getElem?_getD, List.getElem?_take, if_pos hlt, ← List.getD_eq_getElem?_getD]
  rw [tri_at (hr.kp kr) (by omega), hgk]
  have hfk := fits_iff.1 (step_fits (hb k hlt))
  refine r_box fun b11 w1 e11 s11 h11 k1 => ?_
  have h11' : w1.heap[b11]? = some (.cells #[.int .i64 0, .int .i64 0, .int .i64 0] 44 (0, 0)) := h11
  refine st44 h11' fun w2 c2 s2 h112 => ?_
  have k2 : Kp wr w2 := Kp.of_chg k1 c2 fun q e => by omega
  have h92 := block_below h9r k2
  obtain ⟨s0, s1, ss⟩ := tri_cells (p := L.getD i (0, 0, 0)) h92
  obtain ⟨o0, o1, oo⟩ := tri_cells (p := L.getD k (0, 0, 0)) h112
  have k02 := Kp.trans kr k2
  have fin : ∀ b : Bool, b = overB (L.getD i (0, 0, 0)) (L.getD k (0, 0, 0)) → condW (.bool b) (R (.returned (.bool false)) w2) (binQ Tryd.prog w2 .add 3 true (.int .i64 k) (.int .i64 1) fun t70 => (∃ k : Nat, k ≤ i ∧ t70 = .int .i64 k ∧ (∀ o ∈ L.take k, overB (L.getD i (0, 0, 0)) o = false) ∧ Kp w0 w2) ∧ i - (intOf t70).toNat < i - (intOf (.int .i64 (k : Int))).toNat) := fun b hbb => by
    cases hov : overB (L.getD i (0, 0, 0)) (L.getD k (0, 0, 0)) with
    | true =>
      rw [hbb, hov, r_condT]
      refine hR w2 k02 ?_
      unfold stepB
      have : ((L.take i).all fun o => !overB (L.getD i (0, 0, 0)) o) = false := by
        rw [← Bool.not_eq_true, List.all_eq_true]
        intro h
        have := h _ (getD_mem (i := k) (d := (0, 0, 0)) (by omega))
        rw [hgk, hov] at this; cases this
      rw [this, Bool.and_false]
    | false =>
      rw [hbb, hov, r_condF, r_add _ _ (by omega) (by omega)]
      refine ⟨⟨k + 1, by omega, by go_num, fun o ho => ?_, k02⟩, by simp only [intOf]; omega⟩
      rw [take_succ' _ _ (by omega)] at ho
      rcases List.mem_append.1 ho with h | h
      · exact hno o h
      · simp at h
        rw [h, ← getD_lt _ _ (0, 0, 0) (by omega)]; exact hov
  clear hnext hR
  generalize L.getD i (0, 0, 0) = s at *
  generalize L.getD k (0, 0, 0) = o at *
  by_cases g1 : s.1 < o.1 + o.2.2
  case neg =>
    have := fin false (decide_eq_false fun h => g1 h.1).symm
    simp (disch := omega) only [r_ln, r_pick, r_pickT, r_pickF, r_condT, r_condF, r_gdTT, r_gdFF, r_gdTF, r_gdFT, r_gqTT, r_gqFF, r_gqTF, r_gqFT, r_not, r_lss, r_leq, r_gtr, r_geq, r_eql, r_neq, r_add, r_sub, r_min2, r_max2, r_min3, r_max3, r_fa, r_iaS, r_iaA, r_ex2a, r_ex2b, r_ex3a, r_ex3b, r_ex3c, r_nc, r_keepE, Nat.zero_add, Nat.add_zero, Nat.mul_one, Int.toNat_natCast, toNat_sub1, toNat_add1, decide_true, decide_false, Bool.not_true, Bool.not_false, if_true, if_false, Bool.false_eq_true, reduceCtorEq, r_gdU, r_ld s0, r_ld o0, r_ld oo, g1] at this ⊢
    exact this
  by_cases g2 : o.1 < s.1 + s.2.2
  case neg =>
    have := fin false (decide_eq_false fun h => g2 h.2.1).symm
    simp (disch := omega) only [r_ln, r_pick, r_pickT, r_pickF, r_condT, r_condF, r_gdTT, r_gdFF, r_gdTF, r_gdFT, r_gqTT, r_gqFF, r_gqTF, r_gqFT, r_not, r_lss, r_leq, r_gtr, r_geq, r_eql, r_neq, r_add, r_sub, r_min2, r_max2, r_min3, r_max3, r_fa, r_iaS, r_iaA, r_ex2a, r_ex2b, r_ex3a, r_ex3b, r_ex3c, r_nc, r_keepE, Nat.zero_add, Nat.add_zero, Nat.mul_one, Int.toNat_natCast, toNat_sub1, toNat_add1, decide_true, decide_false, Bool.not_true, Bool.not_false, if_true, if_false, Bool.false_eq_true, reduceCtorEq, r_gdU, r_ld s0, r_ld o0, r_ld oo, r_ld ss, decide_eq_true g1, g2] at this ⊢
    exact this
  by_cases g3 : s.2.1 < o.2.1 + o.2.2
  case neg =>
    have := fin false (decide_eq_false fun h => g3 h.2.2.1).symm
    simp (disch := omega) only [r_ln, r_pick, r_pickT, r_pickF, r_condT, r_condF, r_gdTT, r_gdFF, r_gdTF, r_gdFT, r_gqTT, r_gqFF, r_gqTF, r_gqFT, r_not, r_lss, r_leq, r_gtr, r_geq, r_eql, r_neq, r_add, r_sub, r_min2, r_max2, r_min3, r_max3, r_fa, r_iaS, r_iaA, r_ex2a, r_ex2b, r_ex3a, r_ex3b, r_ex3c, r_nc, r_keepE, Nat.zero_add, Nat.add_zero, Nat.mul_one, Int.toNat_natCast, toNat_sub1, toNat_add1, decide_true, decide_false, Bool.not_true, Bool.not_false, if_true, if_false, Bool.false_eq_true, reduceCtorEq, r_gdU, r_ld s0, r_ld o0, r_ld oo, r_ld ss, r_ld s1, r_ld o1, decide_eq_true g1, decide_eq_true g2, g3] at this ⊢
    exact this
  by_cases g4 : o.2.1 < s.2.1 + s.2.2
  case neg =>
    have := fin false (decide_eq_false fun h => g4 h.2.2.2).symm
    simp (disch := omega) only [r_ln, r_pick, r_pickT, r_pickF, r_condT, r_condF, r_gdTT, r_gdFF, r_gdTF, r_gdFT, r_gqTT, r_gqFF, r_gqTF, r_gqFT, r_not, r_lss, r_leq, r_gtr, r_geq, r_eql, r_neq, r_add, r_sub, r_min2, r_max2, r_min3, r_max3, r_fa, r_iaS, r_iaA, r_ex2a, r_ex2b, r_ex3a, r_ex3b, r_ex3c, r_nc, r_keepE, Nat.zero_add, Nat.add_zero, Nat.mul_one, Int.toNat_natCast, toNat_sub1, toNat_add1, decide_true, decide_false, Bool.not_true, Bool.not_false, if_true, if_false, Bool.false_eq_true, reduceCtorEq, r_gdU, r_ld s0, r_ld o0, r_ld oo, r_ld ss, r_ld s1, r_ld o1, decide_eq_true g1, decide_eq_true g2, decide_eq_true g3, g4] at this ⊢
    exact this
  have := fin true (decide_eq_true ⟨g1, g2, g3, g4⟩).symm
  simp (disch := omega) only [r_ln, r_pick, r_pickT, r_pickF, r_condT, r_condF, r_gdTT, r_gdFF, r_gdTF, r_gdFT, r_gqTT, r_gqFF, r_gqTF, r_gqFT, r_not, r_lss, r_leq, r_gtr, r_geq, r_eql, r_neq, r_add, r_sub, r_min2, r_max2, r_min3, r_max3, r_fa, r_iaS, r_iaA, r_ex2a, r_ex2b, r_ex3a, r_ex3b, r_ex3c, r_nc, r_keepE, Nat.zero_add, Nat.add_zero, Nat.mul_one, Int.toNat_natCast, toNat_sub1, toNat_add1, decide_true, decide_false, Bool.not_true, Bool.not_false, if_true, if_false, Bool.false_eq_true, reduceCtorEq, r_gdU, r_ld s0, r_ld o0, r_ld oo, r_ld ss, r_ld s1, r_ld o1, decide_eq_true g1, decide_eq_true g2, decide_eq_true g3, decide_eq_true g4] at this ⊢
  exact this

set_option maxRecDepth 100000 in
set_option maxHeartbeats 1000000 in
theorem is_calls {v : Value} {W H : Int} {L : List T3} (w : World) (hW : rectB W = true) (hH : rectB H = true) (hr : RdS w v L) (hl : L.length ≤ 16) : Calls Tryd.prog 43 #[.int .i64 W, .int .i64 H, v] w fun e w' => e = .returned (.bool (isB W H L)) ∧ Kp w w' := by
  have hW' := of_decide_eq_true hW
  have hH' := of_decide_eq_true hH
  obtain ⟨a, cap, ev, _⟩ := hr.len
  have lnv : ∀ K : Value → Prop, ln1 v K = K (.int .i64 L.length) := fun K => by rw [ev]; rfl
  refine lift43 ?_
  unfold S43
  rw [lnv]
  unfold S43L0
  refine ⟨fun t7 t14 wr => ∃ i : Nat, i ≤ L.length ∧ t7 = .int .i64 (area (L.take i)) ∧ t14 = .int .i64 i ∧ (∀ k, k < i → stepB W H L k = true) ∧ Kp w wr, fun _ t14 _ => L.length - (intOf t14).toNat, ⟨0, by omega, rfl, rfl, fun k hk => by omega, Kp.refl _⟩, ?_⟩
  rintro _ _ _ wr ⟨i, hi, rfl, rfl, hb, kr⟩
  by_cases hlt : i < L.length
  case neg =>
    have hlt' : ¬ (i : Int) < (L.length : Int) := by omega
    obtain rfl : i = L.length := by omega
    simp only [r_lss, hlt', decide_false, r_condF]
    have h1 : 0 ≤ W * H ∧ W * H ≤ 1000 * 1000 := ⟨Int.mul_nonneg (by omega) (by omega), Int.mul_le_mul hW'.2 hH'.2 (by omega) (by omega)⟩
    rw [r_mul _ _ (by omega) (by omega), r_eql, List.take_of_length_le (Nat.le_refl _), isB_good hb]
    exact ⟨rfl, kr⟩
  have hlt' : (i : Int) < (L.length : Int) := by omega
  simp only [r_lss, decide_eq_true hlt', r_condT]
  rw [tri_at (hr.kp kr) hlt]
  refine r_box fun b9 w1 e9 s9 h9 k1 => ?_
  have h9' : w1.heap[b9]? = some (.cells #[.int .i64 0, .int .i64 0, .int .i64 0] 44 (0, 0)) := h9
  refine st44 h9' fun w2 c2 s2 h92 => ?_
  have k2 : Kp wr w2 := Kp.of_chg k1 c2 fun q e => by omega
  rw [tri_box h92]
  refine r_use fok64 (fits_calls w2 hW hH) rfl ?_
  rintro _ w3 ⟨rfl, k3⟩
  refine ⟨_, rfl, ?_⟩
  have k03 := Kp.trans kr (Kp.trans k2 k3)
  cases hf : fitsB W H (L.getD i (0, 0, 0)) with
  | false =>
    simp only [r_not, Bool.not_false, r_condT]
    exact ⟨ret_bool (isB_bad hlt (by unfold stepB; rw [hf]; rfl)).symm, k03⟩
  | true =>
    simp only [r_not, Bool.not_true, r_condF]
    obtain ⟨u, hs, hln, hru⟩ := Rd.to (hr.kp k03) (i := i) (by omega)
    rw [hs, hln]
    refine r43_1 hW hH hlt hl hru hb hf (block_below h92 k3) rfl (fun w' k' hst => ?_) fun w' k' hst => ⟨ret_bool (isB_bad hlt hst).symm, Kp.trans k03 k'⟩
    refine ⟨⟨i + 1, by omega, rfl, by go_num, fun k hk => ?_, Kp.trans k03 k'⟩, by simp only [intOf]; omega⟩
    by_cases e : k = i
    · rw [e]; exact hst
    · exact hb k (by omega)

/-- Is's error and answer. -/
def isE (W H : Int) (L : List T3) : Int := if rectB W && rectB H then (if 16 < L.length then 3 else 0) else 2
def isV (W H : Int) (L : List T3) : Bool := decide (isE W H L = 0) && isB W H L
set_option maxRecDepth 100000 in
theorem Is_calls {v : Value} {W H : Int} {L : List T3} (w : World) (hr : RdS w v L) : Calls Tryd.prog 15 #[.int .i64 W, .int .i64 H, v] w fun e w' => e = .returned (.tuple #[.bool (isV W H L), .int .i64 (isE W H L)]) ∧ Kp w w' := by
  obtain ⟨a, cap, ev, _⟩ := hr.len
  have lnv : ∀ K : Value → Prop, ln1 v K = K (.int .i64 L.length) := fun K => by rw [ev]; rfl
  refine lift15 ?_
  unfold S15
  refine r_use fok42 (rect_calls W w) rfl ?_
  rintro _ _ ⟨rfl, rfl⟩
  refine ⟨_, rfl, ?_⟩
  unfold isV
  cases hW : rectB W with
  | false =>
    have hE : isE W H L = 2 := by unfold isE; rw [hW]; rfl
    rw [hE]
    simp (disch := omega) only [r_ln, r_pick, r_pickT, r_pickF, r_condT, r_condF, r_gdTT, r_gdFF, r_gdTF, r_gdFT, r_gqTT, r_gqFF, r_gqTF, r_gqFT, r_not, r_lss, r_leq, r_gtr, r_geq, r_eql, r_neq, r_add, r_sub, r_min2, r_max2, r_min3, r_max3, r_fa, r_iaS, r_iaA, r_ex2a, r_ex2b, r_ex3a, r_ex3b, r_ex3c, r_nc, r_keepE, Nat.zero_add, Nat.add_zero, Nat.mul_one, Int.toNat_natCast, toNat_sub1, toNat_add1, decide_true, decide_false, Bool.not_true, Bool.not_false, if_true, if_false, Bool.false_eq_true, reduceCtorEq, r_gdU]
    exact ⟨rfl, Kp.refl _⟩
  | true =>
    simp (disch := omega) only [r_ln, r_pick, r_pickT, r_pickF, r_condT, r_condF, r_gdTT, r_gdFF, r_gdTF, r_gdFT, r_gqTT, r_gqFF, r_gqTF, r_gqFT, r_not, r_lss, r_leq, r_gtr, r_geq, r_eql, r_neq, r_add, r_sub, r_min2, r_max2, r_min3, r_max3, r_fa, r_iaS, r_iaA, r_ex2a, r_ex2b, r_ex3a, r_ex3b, r_ex3c, r_nc, r_keepE, Nat.zero_add, Nat.add_zero, Nat.mul_one, Int.toNat_natCast, toNat_sub1, toNat_add1, decide_true, decide_false, Bool.not_true, Bool.not_false, if_true, if_false, Bool.false_eq_true, reduceCtorEq, r_gdU]
    refine r_use fok42 (rect_calls H w) rfl ?_
    rintro _ _ ⟨rfl, rfl⟩
    refine ⟨_, rfl, ?_⟩
    cases hH : rectB H with
    | false =>
      have hE : isE W H L = 2 := by unfold isE; rw [hW, hH]; rfl
      rw [hE]
      simp (disch := omega) only [r_ln, r_pick, r_pickT, r_pickF, r_condT, r_condF, r_gdTT, r_gdFF, r_gdTF, r_gdFT, r_gqTT, r_gqFF, r_gqTF, r_gqFT, r_not, r_lss, r_leq, r_gtr, r_geq, r_eql, r_neq, r_add, r_sub, r_min2, r_max2, r_min3, r_max3, r_fa, r_iaS, r_iaA, r_ex2a, r_ex2b, r_ex3a, r_ex3b, r_ex3c, r_nc, r_keepE, Nat.zero_add, Nat.add_zero, Nat.mul_one, Int.toNat_natCast, toNat_sub1, toNat_add1, decide_true, decide_false, Bool.not_true, Bool.not_false, if_true, if_false, Bool.false_eq_true, reduceCtorEq, r_gdU]
      exact ⟨rfl, Kp.refl _⟩
    | true =>
      have hE : isE W H L = if 16 < L.length then 3 else 0 := by unfold isE; rw [hW, hH]; rfl
      rw [hE]
      by_cases hl : (16 : Int) < (L.length : Int)
      · rw [if_pos (by omega)]
        simp (disch := omega) only [r_ln, r_pick, r_pickT, r_pickF, r_condT, r_condF, r_gdTT, r_gdFF, r_gdTF, r_gdFT, r_gqTT, r_gqFF, r_gqTF, r_gqFT, r_not, r_lss, r_leq, r_gtr, r_geq, r_eql, r_neq, r_add, r_sub, r_min2, r_max2, r_min3, r_max3, r_fa, r_iaS, r_iaA, r_ex2a, r_ex2b, r_ex3a, r_ex3b, r_ex3c, r_nc, r_keepE, Nat.zero_add, Nat.add_zero, Nat.mul_one, Int.toNat_natCast, toNat_sub1, toNat_add1, decide_true, decide_false, Bool.not_true, Bool.not_false, if_true, if_false, Bool.false_eq_true, reduceCtorEq, lnv, decide_eq_true hl]
        exact ⟨rfl, Kp.refl _⟩
      · rw [if_neg (by omega)]
        simp (disch := omega) only [r_ln, r_pick, r_pickT, r_pickF, r_condT, r_condF, r_gdTT, r_gdFF, r_gdTF, r_gdFT, r_gqTT, r_gqFF, r_gqTF, r_gqFT, r_not, r_lss, r_leq, r_gtr, r_geq, r_eql, r_neq, r_add, r_sub, r_min2, r_max2, r_min3, r_max3, r_fa, r_iaS, r_iaA, r_ex2a, r_ex2b, r_ex3a, r_ex3b, r_ex3c, r_nc, r_keepE, Nat.zero_add, Nat.add_zero, Nat.mul_one, Int.toNat_natCast, toNat_sub1, toNat_add1, decide_true, decide_false, Bool.not_true, Bool.not_false, if_true, if_false, Bool.false_eq_true, reduceCtorEq, lnv, hl]
        refine r_use fok43 (is_calls w hW hH hr (by omega)) rfl ?_
        rintro _ w2 ⟨rfl, k2⟩
        exact ⟨_, rfl, rfl, k2⟩

end Go.Proofs.YtkdcldbedbagjaaDoor
