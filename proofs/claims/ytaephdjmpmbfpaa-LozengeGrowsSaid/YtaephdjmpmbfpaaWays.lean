/- Contracts: ways, Count. -/
import Derived.Test.YtaephdjmpmbfpaaMemo
import Derived.Test.YtaephdjmpmbfpaaE2
set_option linter.all false
namespace Go.Hp

/-- How many ways there are to go on, n rows to come under the row ab. -/
def waysM (B : Nat) : Nat → List Int → Int
  | 0, _ => 1
  | n + 1, ab => ((belowM B ab).map (waysM B n)).sum

theorem bel_range {ab : List Int} {M : Int} (h : ∀ k, ab.getD k 0 ≤ M) : ∀ (n j : Nat) (r : List Int), (∀ k, 0 ≤ r.getD k 0 ∧ r.getD k 0 ≤ M) → ∀ q ∈ bel ab n j r, ∀ k, 0 ≤ q.getD k 0 ∧ q.getD k 0 ≤ M
  | 0, j, r, hr, q, hq => by simp [bel] at hq; rw [hq]; exact hr
  | n + 1, j, r, hr, q, hq => by
    simp only [bel, List.mem_flatMap, List.mem_range] at hq
    obtain ⟨x, hx, hq⟩ := hq
    refine bel_range h n (j + 1) _ (fun k => ?_) q hq
    have hm : mostR ab r j ≤ M := by
      have := h j
      unfold mostR
      split <;> omega
    rw [List.getD_eq_getElem?_getD, List.getElem?_set]
    split
    · split
      · simp; omega
      · have := hr k; simp at this ⊢; omega
    · have := hr k; rwa [List.getD_eq_getElem?_getD] at this

theorem belowM_fine {B : Nat} {ab : List Int} {M : Int} (h0 : 0 ≤ M) (h : ∀ k, ab.getD k 0 ≤ M) : ∀ q ∈ belowM B ab, q.length = 4 ∧ ∀ k, 0 ≤ q.getD k 0 ∧ q.getD k 0 ≤ M := fun q hq =>
  ⟨bel_length B 0 _ q hq, bel_range h B 0 _ (fun k => by
    match k with
    | 0 => exact ⟨Int.le_refl 0, h0⟩
    | 1 => exact ⟨Int.le_refl 0, h0⟩
    | 2 => exact ⟨Int.le_refl 0, h0⟩
    | 3 => exact ⟨Int.le_refl 0, h0⟩
    | k + 4 => exact ⟨Int.le_refl 0, h0⟩) q hq⟩

theorem belowM_count {B : Nat} {ab : List Int} (hB : B ≤ 4) (h : ∀ k, ab.getD k 0 ≤ 4) : (belowM B ab).length ≤ 625 :=
  Nat.le_trans (bel_count (m := 5) (fun j => by have := h j; omega) B 0 _) (Nat.le_trans (Nat.pow_le_pow_right (by decide) hB) (by decide))

theorem sum_bound {f : List Int → Int} {b : Int} : ∀ (l : List (List Int)), (∀ q ∈ l, 0 ≤ f q ∧ f q ≤ b) → 0 ≤ (l.map f).sum ∧ (l.map f).sum ≤ l.length * b
  | [], _ => by simp
  | x :: l, h => by
    have h1 := h x (by simp)
    have h2 := sum_bound l (fun q hq => h q (by simp [hq]))
    simp only [List.map_cons, List.sum_cons, List.length_cons]
    have e : ((l.length + 1 : Nat) : Int) * b = l.length * b + b := by rw [Int.natCast_add, Int.add_mul]; simp
    rw [e]; omega

theorem ways_bound {B : Nat} (hB : B ≤ 4) : ∀ (n : Nat) (ab : List Int), (∀ k, ab.getD k 0 ≤ 4) → 0 ≤ waysM B n ab ∧ waysM B n ab ≤ ((625 ^ n : Nat) : Int)
  | 0, ab, _ => by simp [waysM]
  | n + 1, ab, h => by
    have h1 := sum_bound (f := waysM B n) (b := ((625 ^ n : Nat) : Int)) (belowM B ab) fun q hq => ways_bound hB n q fun k => ((belowM_fine (by decide) h q hq).2 k).2
    have h2 := belowM_count hB h
    refine ⟨h1.1, Int.le_trans h1.2 ?_⟩
    rw [Nat.pow_succ, Nat.mul_comm]
    have : (belowM B ab).length * 625 ^ n ≤ 625 * 625 ^ n := Nat.mul_le_mul_right _ h2
    have e : (((belowM B ab).length * 625 ^ n : Nat) : Int) = ((belowM B ab).length : Int) * ((625 ^ n : Nat) : Int) := by simp
    rw [← e]; omega

theorem ways_le {B n : Nat} {ab : List Int} (hB : B ≤ 4) (hn : n ≤ 4) (h : ∀ k, ab.getD k 0 ≤ 4) : 0 ≤ waysM B n ab ∧ waysM B n ab ≤ 152587890625 := by
  have := ways_bound hB n ab h
  have h2 : 625 ^ n ≤ 625 ^ 4 := Nat.pow_le_pow_right (by decide) hn
  have h3 : 625 ^ 4 = 152587890625 := by decide
  omega

theorem sum_take_le {f : List Int → Int} {l : List (List Int)} (h : ∀ q ∈ l, 0 ≤ f q) (i : Nat) : 0 ≤ ((l.take i).map f).sum ∧ ((l.take i).map f).sum ≤ (l.map f).sum := by
  have key : ∀ l : List (List Int), (∀ q ∈ l, 0 ≤ f q) → 0 ≤ (l.map f).sum := by
    intro l
    induction l with
    | nil => simp
    | cons x l ih =>
      intro h
      have := h x (by simp)
      have := ih fun q hq => h q (by simp [hq])
      simp only [List.map_cons, List.sum_cons]; omega
  refine ⟨key _ fun q hq => h q (List.mem_of_mem_take hq), ?_⟩
  have h2 := key (l.drop i) fun q hq => h q (List.mem_of_mem_drop hq)
  have e : (l.map f).sum = ((l.take i).map f).sum + ((l.drop i).map f).sum := by
    rw [← List.sum_append, ← List.map_append, List.take_append_drop]
  omega

theorem sum_take_succ {f : List Int → Int} {l : List (List Int)} {i : Nat} (h : i < l.length) : ((l.take (i + 1)).map f).sum = ((l.take i).map f).sum + f (l.getD i []) := by
  rw [List.take_succ_eq_append_getElem h, List.map_append, List.sum_append]
  simp only [List.map_cons, List.map_nil, List.sum_cons, List.sum_nil, Int.add_zero, List.getD_eq_getElem?_getD, List.getElem?_eq_getElem h, Option.getD_some]

end Go.Hp

namespace Go.Proofs.Ytaephdjmpmbfpaa
open Go.Lf Go.RowKit Go.Hp

theorem bd88 (l : Int) {r : List Int} (h : r.length = 4) (K : Value → Prop) : bdQ Try.prog 88 [(0, .int .i64 l), (1, .agg (intCells r).toArray)] K = K (placeV l r) := by
  have h4 : ∀ (a b c d : Int), bdQ Try.prog 88 [(0, .int .i64 l), (1, .agg (intCells [a, b, c, d]).toArray)] K = K (placeV l [a, b, c, d]) := fun a b c d => by kernel_rfl
  match r, h with
  | [a, b, c, d], _ => exact h4 a b c d

theorem flat4 {rows : List (List Int)} (h4 : ∀ r ∈ rows, r.length = 4) {i : Nat} (hi : i < rows.length) : ((rows.flatMap intCells).drop (i * 4)).take 4 = intCells (rows.getD i []) := by
  induction rows generalizing i with
  | nil => cases hi
  | cons r rows ih =>
    have hr : (intCells r).length = 4 := by rw [intCells_length]; exact h4 r (by simp)
    cases i with
    | zero => simp [List.take_append_of_le_length, hr, List.take_of_length_le]
    | succ i =>
      have := ih (fun q hq => h4 q (by simp [hq])) (i := i) (by simpa using hi)
      simp only [List.flatMap_cons, List.getD_cons_succ]
      rw [List.drop_append, List.drop_eq_nil_of_le (by omega), List.nil_append, show (i + 1) * 4 - (intCells r).length = i * 4 by omega]
      exact this

/-- A row read out of a slice of rows. -/
theorem rows4 {w : World} {base : Nat} {v : Value} {rows : List (List Int)} (ho : w.ownsRow base 80 4 v rows.length (rows.flatMap intCells)) (h4 : ∀ r ∈ rows, r.length = 4) {i : Nat} (hi : i < rows.length) :
    ∃ g cap cur, v = .slice (some ⟨g, 0, none⟩) rows.length cap ∧ base ≤ g ∧ w.heap[g]? = some (.cells cur 80 (0, 0)) ∧ i * 4 + 4 ≤ cur.size ∧ (cur.toList.drop (i * 4)).take 4 = intCells (rows.getD i []) := by
  rcases ho.2 with ⟨rfl, h0⟩ | ⟨g, cap, cur, rfl, hb, hg, hle, hm, hs, ht⟩
  · omega
  · refine ⟨g, cap, cur, rfl, hb, hg, by omega, ?_⟩
    rw [← flat4 h4 hi, ← ht, List.drop_take, List.take_take, Nat.min_eq_left (by omega)]

theorem owned_len {w : World} {base n size : Nat} {e : TypeId} {v : Value} {xs : List Value} (h : w.ownsRow base e size v n xs) : ∃ a cap, v = .slice a n cap := by
  rcases h.2 with ⟨rfl, rfl⟩ | ⟨g, cap, cur, rfl, _⟩
  · exact ⟨none, 0, rfl⟩
  · exact ⟨_, cap, rfl⟩

/-- What the map of a counter knows. -/
abbrev knownF (B : Nat) : Int → List Int → Int := fun l r => waysM B l.toNat r

set_option maxRecDepth 100000 in
theorem ways_calls (A C : Int) (B m : Nat) (hB : B ≤ 4) : ∀ (n : Nat) (ab : List Int) (w : World), n ≤ 4 → ab.length = 4 → (∀ k, 0 ≤ ab.getD k 0 ∧ ab.getD k 0 ≤ 4) → MemoAt w m (knownF B) →
    Calls Try.prog 57 #[counterV A B C m, placeV n ab] w fun e w' => e = .returned (.int .i64 (waysM B n ab)) ∧ MemoAt w' m (knownF B) ∧ Chg (fun k => k = m) w w' := by
  intro n
  induction n with
  | zero =>
    intro ab w hn hl hr hm
    refine lift57 ?_
    unfold S57
    refine r_box fun b0 w1 e1 s1 h1 k1 => ?_
    refine r_box fun b1 w2 e2 s2 h2 k2 => ?_
    have c1 : w2.cell? ⟨b1, 0, none⟩ = some (.int .i64 (0 : Nat)) := by rw [cell_row h2]; rfl
    simp (disch := omega) only [r_ln, r_pick, r_pickT, r_pickF, r_condT, r_condF, r_gdTT, r_gdFF, r_gdTF, r_gdFT, r_gqTT, r_gqFF, r_gqTF, r_gqFT, r_not, r_lss, r_leq, r_gtr, r_geq, r_eql, r_neq, r_add, r_sub, r_min2, r_max2, r_min3, r_max3, r_fa, r_iaS, r_iaA, r_ex2a, r_ex2b, r_ex3a, r_ex3b, r_ex3c, r_nc, r_keepE, Nat.zero_add, Nat.add_zero, Nat.mul_one, Int.toNat_natCast, toNat_sub1, toNat_add1, decide_true, decide_false, Bool.not_true, Bool.not_false, if_true, if_false, Bool.false_eq_true, reduceCtorEq, r_ld c1]
    exact ⟨rfl, hm.kp (Kp.trans k1 k2), Chg.of_kp (Kp.trans k1 k2)⟩
  | succ n ih =>
    intro ab w hn hl hr hm
    refine lift57 ?_
    unfold S57
    refine r_box fun b0 w1 e1 s1 h1 k1 => ?_
    refine r_box fun b1 w2 e2 s2 h2 k2 => ?_
    have hk12 := Kp.trans k1 k2
    have hfine : Fine ((n + 1 : Nat) : Int) ab := ⟨hl, by omega, fun k => by have := hr k; omega⟩
    have hm2 := hm.kp hk12
    have hmlt := hm.lt
    have h12 := block_below h1 k2
    have c1 : w2.cell? ⟨b1, 0, none⟩ = some (.int .i64 (n + 1 : Nat)) := by rw [cell_row h2]; rfl
    have c0 : w2.cell? ⟨b0, 3, none⟩ = some (.map (some m)) := by rw [cell_row h12]; rfl
    have hne : ¬ ((n + 1 : Nat) : Int) = 0 := by omega
    have hsz2 : (placeV ((n + 1 : Nat) : Int) ab).cells.size = 5 := by simp [Value.cells, intCells, hl]
    simp (disch := omega) only [r_ln, r_pick, r_pickT, r_pickF, r_condT, r_condF, r_gdTT, r_gdFF, r_gdTF, r_gdFT, r_gqTT, r_gqFF, r_gqTF, r_gqFT, r_not, r_lss, r_leq, r_gtr, r_geq, r_eql, r_neq, r_add, r_sub, r_min2, r_max2, r_min3, r_max3, r_fa, r_iaS, r_iaA, r_ex2a, r_ex2b, r_ex3a, r_ex3b, r_ex3c, r_nc, r_keepE, Nat.zero_add, Nat.add_zero, Nat.mul_one, Int.toNat_natCast, toNat_sub1, toNat_add1, decide_true, decide_false, Bool.not_true, Bool.not_false, if_true, if_false, Bool.false_eq_true, reduceCtorEq, r_ld c1, hne, r_ld c0, r_ldRow (n := 5) h2 hsz2, agg_cells]
    refine r_look hm2 hfine ?_ ?_
    · simp (disch := omega) only [r_ln, r_pick, r_pickT, r_pickF, r_condT, r_condF, r_gdTT, r_gdFF, r_gdTF, r_gdFT, r_gqTT, r_gqFF, r_gqTF, r_gqFT, r_not, r_lss, r_leq, r_gtr, r_geq, r_eql, r_neq, r_add, r_sub, r_min2, r_max2, r_min3, r_max3, r_fa, r_iaS, r_iaA, r_ex2a, r_ex2b, r_ex3a, r_ex3b, r_ex3c, r_nc, r_keepE, Nat.zero_add, Nat.add_zero, Nat.mul_one, Int.toNat_natCast, toNat_sub1, toNat_add1, decide_true, decide_false, Bool.not_true, Bool.not_false, if_true, if_false, Bool.false_eq_true, reduceCtorEq]
      exact ⟨by simp [knownF], hm2, Chg.of_kp hk12⟩
    have hrow1 : ((placeV ((n + 1 : Nat) : Int) ab).cells.toList.drop 1).take 4 = intCells ab := by
      simp [Value.cells, List.take_of_length_le, intCells, hl]
    have hrow0 : ((counterV A B C m).cells.toList.drop 0).take 3 = [.int .i64 A, .int .i64 B, .int .i64 C] := rfl
    simp (disch := omega) only [r_ln, r_pick, r_pickT, r_pickF, r_condT, r_condF, r_gdTT, r_gdFF, r_gdTF, r_gdFT, r_gqTT, r_gqFF, r_gqTF, r_gqFT, r_not, r_lss, r_leq, r_gtr, r_geq, r_eql, r_neq, r_add, r_sub, r_min2, r_max2, r_min3, r_max3, r_fa, r_iaS, r_iaA, r_ex2a, r_ex2b, r_ex3a, r_ex3b, r_ex3c, r_nc, r_keepE, Nat.zero_add, Nat.add_zero, Nat.mul_one, Int.toNat_natCast, toNat_sub1, toNat_add1, decide_true, decide_false, Bool.not_true, Bool.not_false, if_true, if_false, Bool.false_eq_true, reduceCtorEq, r_ldAt (n := 3) h12 (by show 0 + 3 ≤ 4; decide) hrow0, r_ldAt (n := 4) h2 (by omega) hrow1]
    refine r_use fok55 (below_calls A C B ab w2 hB hl fun k => by have := hr k; omega) rfl ?_
    rintro _ w3 ⟨v, rfl, hk3, ho⟩
    refine ⟨_, rfl, ?_⟩
    have hfr := belowM_fine (B := B) (M := 4) (by decide) fun k => (hr k).2
    have hcount := belowM_count (B := B) (ab := ab) hB fun k => (hr k).2
    have hwdef : waysM B (n + 1) ab = ((belowM B ab).map (waysM B n)).sum := rfl
    have hwle := ways_le (B := B) (n := n + 1) (ab := ab) hB hn fun k => (hr k).2
    rw [hwdef] at hwle ⊢
    have h4 : ∀ r ∈ belowM B ab, r.length = 4 := fun r hr => (hfr r hr).1
    have hnn : ∀ q ∈ belowM B ab, 0 ≤ waysM B n q := fun q hq => (ways_le hB (by omega) fun k => ((hfr q hq).2 k).2).1
    have hknow : knownF B ((n + 1 : Nat) : Int) ab = ((belowM B ab).map (waysM B n)).sum := by simp [knownF, hwdef]
    generalize belowM B ab = rows at *
    obtain ⟨va, vc, rfl⟩ := owned_len ho
    simp (disch := omega) only [r_ln, r_pick, r_pickT, r_pickF, r_condT, r_condF, r_gdTT, r_gdFF, r_gdTF, r_gdFT, r_gqTT, r_gqFF, r_gqTF, r_gqFT, r_not, r_lss, r_leq, r_gtr, r_geq, r_eql, r_neq, r_add, r_sub, r_min2, r_max2, r_min3, r_max3, r_fa, r_iaS, r_iaA, r_ex2a, r_ex2b, r_ex3a, r_ex3b, r_ex3c, r_nc, r_keepE, Nat.zero_add, Nat.add_zero, Nat.mul_one, Int.toNat_natCast, toNat_sub1, toNat_add1, decide_true, decide_false, Bool.not_true, Bool.not_false, if_true, if_false, Bool.false_eq_true, reduceCtorEq]
    refine ⟨fun t7 t28 wr => ∃ i : Nat, i ≤ rows.length ∧ t28 = .int .i64 i ∧ t7 = .int .i64 ((rows.take i).map (waysM B n)).sum ∧ MemoAt wr m (knownF B) ∧ Chg (fun k => k = m) w3 wr,
      fun _ t28 _ => rows.length - (intOf t28).toNat, ⟨0, by omega, rfl, by simp, hm2.kp hk3, Chg.refl _ _⟩, ?_⟩
    rintro _ _ _ wr ⟨i, hi, rfl, rfl, hmr, hch⟩
    have hkk : Kp w w3 := Kp.trans hk12 hk3
    have hb1 : wr.heap[b1]? = some (.cells (placeV ((n + 1 : Nat) : Int) ab).cells 88 (0, 0)) := hch.at (block_below h2 hk3) (by omega)
    have hb0 : wr.heap[b0]? = some (.cells (counterV A B C m).cells 77 (0, 0)) := hch.at (block_below h12 hk3) (by omega)
    have hor := owns_chg ho hch fun k hk e => by have := owned_block ho hk; omega
    have d1 : wr.cell? ⟨b1, 0, none⟩ = some (.int .i64 (n + 1 : Nat)) := by rw [cell_row hb1]; rfl
    have d0 : wr.cell? ⟨b0, 3, none⟩ = some (.map (some m)) := by rw [cell_row hb0]; rfl
    have hst := sum_take_le hnn i
    by_cases hlt : i < rows.length
    case neg =>
      have hlt' : ¬ (i : Int) < (rows.length : Int) := by omega
      have e : i = rows.length := by omega
      subst e
      rw [List.take_of_length_le (Nat.le_refl _)] at *
      simp (disch := omega) only [r_ln, r_pick, r_pickT, r_pickF, r_condT, r_condF, r_gdTT, r_gdFF, r_gdTF, r_gdFT, r_gqTT, r_gqFF, r_gqTF, r_gqFT, r_not, r_lss, r_leq, r_gtr, r_geq, r_eql, r_neq, r_add, r_sub, r_min2, r_max2, r_min3, r_max3, r_fa, r_iaS, r_iaA, r_ex2a, r_ex2b, r_ex3a, r_ex3b, r_ex3c, r_nc, r_keepE, Nat.zero_add, Nat.add_zero, Nat.mul_one, Int.toNat_natCast, toNat_sub1, toNat_add1, decide_true, decide_false, Bool.not_true, Bool.not_false, if_true, if_false, Bool.false_eq_true, reduceCtorEq, hlt', r_ld d0, r_ldRow (n := 5) hb1 hsz2, agg_cells]
      rw [← hknow]
      exact r_store hmr hfine fun w5 hm5 hc5 hs5 => ⟨trivial, hm5, ((Chg.of_kp hkk).trans hch).trans hc5⟩
    have hlt' : (i : Int) < (rows.length : Int) := by omega
    obtain ⟨g, cap, cur, e, hgb, hg, hgs, hrow⟩ := rows4 hor h4 hlt
    cases e
    have hmem : rows.getD i [] ∈ rows := by rw [getD_lt _ _ _ hlt]; exact List.getElem_mem hlt
    have hl4 := h4 _ hmem
    simp (disch := omega) only [r_ln, r_pick, r_pickT, r_pickF, r_condT, r_condF, r_gdTT, r_gdFF, r_gdTF, r_gdFT, r_gqTT, r_gqFF, r_gqTF, r_gqFT, r_not, r_lss, r_leq, r_gtr, r_geq, r_eql, r_neq, r_add, r_sub, r_min2, r_max2, r_min3, r_max3, r_fa, r_iaS, r_iaA, r_ex2a, r_ex2b, r_ex3a, r_ex3b, r_ex3c, r_nc, r_keepE, Nat.zero_add, Nat.add_zero, Nat.mul_one, Int.toNat_natCast, toNat_sub1, toNat_add1, decide_true, decide_false, Bool.not_true, Bool.not_false, if_true, if_false, Bool.false_eq_true, reduceCtorEq, hlt', r_ldAt (n := 4) hg hgs hrow]
    refine r_box fun b2 w4 e4 s4 hb4 k4 => ?_
    refine r_stAll (n := 4) (ty := 80) (v := .agg (intCells (rows.getD i [])).toArray) (cs := (Value.agg #[.int .i64 0, .int .i64 0, .int .i64 0, .int .i64 0]).cells) (by kernel_rfl) (by rw [rowV_size]; exact hl4) (rowV_one _) hb4 rfl fun w5 hc5 hs5 hb5 => ?_
    have f1 : w5.cell? ⟨b1, 0, none⟩ = some (.int .i64 (n + 1 : Nat)) := by rw [cell_row (hc5.at (block_below hb1 k4) (by have := block_lt hb1; omega))]; rfl
    have f0 : w5.heap[b0]? = some (.cells (counterV A B C m).cells 77 (0, 0)) := hc5.at (block_below hb0 k4) (by have := block_lt hb0; omega)
    have hm5 : MemoAt w5 m (knownF B) := (hmr.kp k4).chg hc5 (by have := hmr.lt; omega)
    have en : ((n + 1 : Nat) : Int) - 1 = (n : Nat) := by omega
    simp (disch := omega) only [r_ln, r_pick, r_pickT, r_pickF, r_condT, r_condF, r_gdTT, r_gdFF, r_gdTF, r_gdFT, r_gqTT, r_gqFF, r_gqTF, r_gqFT, r_not, r_lss, r_leq, r_gtr, r_geq, r_eql, r_neq, r_add, r_sub, r_min2, r_max2, r_min3, r_max3, r_fa, r_iaS, r_iaA, r_ex2a, r_ex2b, r_ex3a, r_ex3b, r_ex3c, r_nc, r_keepE, Nat.zero_add, Nat.add_zero, Nat.mul_one, Int.toNat_natCast, toNat_sub1, toNat_add1, decide_true, decide_false, Bool.not_true, Bool.not_false, if_true, if_false, Bool.false_eq_true, reduceCtorEq, r_ld f1, r_ldRow (n := 4) f0 rfl, r_ldRow (n := 4) hb5 (by rw [rowV_size]; exact hl4), agg_cells, en, bd88 _ hl4]
    refine r_use fok57 (ih (rows.getD i []) w5 (by omega) hl4 (fun k => (hfr _ hmem).2 k) hm5) rfl ?_
    rintro _ w6 ⟨rfl, hm6, hc6⟩
    refine ⟨_, rfl, ?_⟩
    have hst1 := sum_take_le hnn (i + 1)
    rw [sum_take_succ hlt] at hst1
    simp (disch := omega) only [r_ln, r_pick, r_pickT, r_pickF, r_condT, r_condF, r_gdTT, r_gdFF, r_gdTF, r_gdFT, r_gqTT, r_gqFF, r_gqTF, r_gqFT, r_not, r_lss, r_leq, r_gtr, r_geq, r_eql, r_neq, r_add, r_sub, r_min2, r_max2, r_min3, r_max3, r_fa, r_iaS, r_iaA, r_ex2a, r_ex2b, r_ex3a, r_ex3b, r_ex3c, r_nc, r_keepE, Nat.zero_add, Nat.add_zero, Nat.mul_one, Int.toNat_natCast, toNat_sub1, toNat_add1, decide_true, decide_false, Bool.not_true, Bool.not_false, if_true, if_false, Bool.false_eq_true, reduceCtorEq]
    refine ⟨⟨i + 1, by omega, by go_num, by rw [sum_take_succ hlt], hm6, ?_⟩, by simp only [intOf]; omega⟩
    exact (hch.trans (Chg.of_kp (Kp.of_chg k4 hc5 fun k e => by omega))).trans hc6

/-- How many heaps there are. -/
def countN (A B C : Int) : Int := if validB A B C = true then waysM B.toNat A.toNat (topRow B.toNat C) else 0

theorem topRow_range {B : Nat} {C : Int} (h0 : 0 ≤ C) (h4 : C ≤ 4) (k : Nat) : 0 ≤ (topRow B C).getD k 0 ∧ (topRow B C).getD k 0 ≤ 4 := by
  unfold topRow
  rw [List.getD_eq_getElem?_getD, List.getElem?_append]
  simp only [List.length_replicate, List.getElem?_replicate]
  split
  · simp [*]
  · split <;> simp

theorem memo_empty {w : World} {m c : Nat} (f : Int → List Int → Int) (h : w.heap[m]? = some (.map #[] c)) : MemoAt w m f := ⟨#[], c, h, by simp⟩

set_option maxRecDepth 100000 in
theorem countf_calls (A B C : Int) (w : World) : Calls Try.prog 21 #[boxV A B C] w fun e w' => e = .returned (.tuple #[.int .i64 (countN A B C), .int .i64 (boxErr A B C)]) ∧ Kp w w' := by
  refine lift21 ?_
  unfold S21
  refine r_box fun b w1 hbw hsz hb hk => ?_
  simp (disch := omega) only [r_ln, r_pick, r_pickT, r_pickF, r_condT, r_condF, r_gdTT, r_gdFF, r_gdTF, r_gdFT, r_gqTT, r_gqFF, r_gqTF, r_gqFT, r_not, r_lss, r_leq, r_gtr, r_geq, r_eql, r_neq, r_add, r_sub, r_min2, r_max2, r_min3, r_max3, r_fa, r_iaS, r_iaA, r_ex2a, r_ex2b, r_ex3a, r_ex3b, r_ex3c, r_nc, r_keepE, Nat.zero_add, Nat.add_zero, Nat.mul_one, Int.toNat_natCast, toNat_sub1, toNat_add1, decide_true, decide_false, Bool.not_true, Bool.not_false, if_true, if_false, Bool.false_eq_true, reduceCtorEq, r_ldRow (n := 3) hb rfl]
  refine r_use fok58 (valid_calls A B C w1) rfl ?_
  rintro e w2 ⟨rfl, hk2⟩
  refine ⟨_, rfl, ?_⟩
  have hkw2 := Kp.trans hk hk2
  have hb2 := block_below hb hk2
  by_cases hv : validB A B C = true
  case neg =>
    have hv' : validB A B C = false := by simpa using hv
    simp (disch := omega) only [r_ln, r_pick, r_pickT, r_pickF, r_condT, r_condF, r_gdTT, r_gdFF, r_gdTF, r_gdFT, r_gqTT, r_gqFF, r_gqTF, r_gqFT, r_not, r_lss, r_leq, r_gtr, r_geq, r_eql, r_neq, r_add, r_sub, r_min2, r_max2, r_min3, r_max3, r_fa, r_iaS, r_iaA, r_ex2a, r_ex2b, r_ex3a, r_ex3b, r_ex3c, r_nc, r_keepE, Nat.zero_add, Nat.add_zero, Nat.mul_one, Int.toNat_natCast, toNat_sub1, toNat_add1, decide_true, decide_false, Bool.not_true, Bool.not_false, if_true, if_false, Bool.false_eq_true, reduceCtorEq, hv']
    exact ⟨by simp [countN, boxErr, hv'], hkw2⟩
  obtain ⟨a, b', c, rfl, rfl, rfl, h1, h2, h3, h4, h5, h6⟩ := validB_nat hv
  simp (disch := omega) only [r_ln, r_pick, r_pickT, r_pickF, r_condT, r_condF, r_gdTT, r_gdFF, r_gdTF, r_gdFT, r_gqTT, r_gqFF, r_gqTF, r_gqFT, r_not, r_lss, r_leq, r_gtr, r_geq, r_eql, r_neq, r_add, r_sub, r_min2, r_max2, r_min3, r_max3, r_fa, r_iaS, r_iaA, r_ex2a, r_ex2b, r_ex3a, r_ex3b, r_ex3c, r_nc, r_keepE, Nat.zero_add, Nat.add_zero, Nat.mul_one, Int.toNat_natCast, toNat_sub1, toNat_add1, decide_true, decide_false, Bool.not_true, Bool.not_false, if_true, if_false, Bool.false_eq_true, reduceCtorEq, hv]
  refine r_drew fun w3 hk3 _ => ?_
  have hb3 := block_below hb2 hk3
  obtain ⟨c0, c1, c2⟩ := box3 hb3
  simp (disch := omega) only [r_ln, r_pick, r_pickT, r_pickF, r_condT, r_condF, r_gdTT, r_gdFF, r_gdTF, r_gdFT, r_gqTT, r_gqFF, r_gqTF, r_gqFT, r_not, r_lss, r_leq, r_gtr, r_geq, r_eql, r_neq, r_add, r_sub, r_min2, r_max2, r_min3, r_max3, r_fa, r_iaS, r_iaA, r_ex2a, r_ex2b, r_ex3a, r_ex3b, r_ex3c, r_nc, r_keepE, Nat.zero_add, Nat.add_zero, Nat.mul_one, Int.toNat_natCast, toNat_sub1, toNat_add1, decide_true, decide_false, Bool.not_true, Bool.not_false, if_true, if_false, Bool.false_eq_true, reduceCtorEq, r_ldRow (n := 3) hb3 rfl, r_ld c0]
  refine r_use fok52 (count_calls a b' c w3) rfl ?_
  rintro _ w4 ⟨m, rfl, hk4, hm0, hm4⟩
  refine ⟨_, rfl, hk4, ?_⟩
  refine r_use fok53 (top_calls a c b' w4 (by omega)) rfl ?_
  rintro _ w5 ⟨rfl, hk5⟩
  refine ⟨_, rfl, hk5, ?_⟩
  have hl4 : (topRow b' c).length = 4 := topRow_length (by omega)
  simp (disch := omega) only [r_ln, r_pick, r_pickT, r_pickF, r_condT, r_condF, r_gdTT, r_gdFF, r_gdTF, r_gdFT, r_gqTT, r_gqFF, r_gqTF, r_gqFT, r_not, r_lss, r_leq, r_gtr, r_geq, r_eql, r_neq, r_add, r_sub, r_min2, r_max2, r_min3, r_max3, r_fa, r_iaS, r_iaA, r_ex2a, r_ex2b, r_ex3a, r_ex3b, r_ex3c, r_nc, r_keepE, Nat.zero_add, Nat.add_zero, Nat.mul_one, Int.toNat_natCast, toNat_sub1, toNat_add1, decide_true, decide_false, Bool.not_true, Bool.not_false, if_true, if_false, Bool.false_eq_true, reduceCtorEq, bd88 _ hl4]
  refine r_use fok57 (ways_calls a c b' m (by omega) a (topRow b' c) w5 (by omega) hl4 (topRow_range (by omega) (by omega)) (memo_empty _ (block_below hm4 hk5))) rfl ?_
  rintro _ w6 ⟨rfl, hm6, hc6⟩
  refine ⟨_, rfl, ?_⟩
  refine ⟨by simp [countN, boxErr, hv], ?_⟩
  have hk05 : Kp w w5 := Kp.trans hkw2 (Kp.trans hk3 (Kp.trans hk4 hk5))
  exact Kp.of_chg hk05 hc6 fun i e => by have := hkw2.size; have := hk3.size; omega

end Go.Proofs.Ytaephdjmpmbfpaa
