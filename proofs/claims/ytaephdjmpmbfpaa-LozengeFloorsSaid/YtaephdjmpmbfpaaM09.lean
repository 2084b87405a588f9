/- Texts of my own, merged by program: Ways Rank Odo. -/
import Derived.Test.YtaephdjmpmbfpaaM06
import Derived.Test.YtaephdjmpmbfpaaM08
import Derived.Test.YtaephdjmpmbfpaaM02
import Derived.Test.YtaephdjmpmbfpaaM04
set_option linter.all false
/- Contracts: ways, Count. -/
namespace Go.Hp

/-- How many ways there are to go on, n rows to come under the row ab. -/
def waysM (B : Nat) : Nat → List Int → Int
  | 0, _ => 1
  | n + 1, ab => ((belowM B ab).map (waysM B n)).sum

theorem bel_range {ab : List Int} {M : Int} (h : ∀ k, ab.getD k 0 ≤ M) : ∀ (n j : Nat) (r : List Int), (∀ k, 0 ≤ r.getD k 0 ∧ r.getD k 0 ≤ M) → ∀ q ∈ bel ab n j r, ∀ k, 0 ≤ q.getD k 0 ∧ q.getD k 0 ≤ M
  | 0, j, r, hr, q, hq => by simp [bel] at hq; rw [hq]; exact hr
  | n + 1, j, r, hr, q, hq => by
    simp only [bel, List.mem_flatMap, List.mem_range] at hq
    obtain ⟨x, hx, hq⟩ := hq
    refine bel_range h n (j + 1) _ (fun k => ?_) q hq
    have hm : mostR ab r j ≤ M := by
      have := h j
      unfold mostR
      split <;> omega
    rw [List.getD_eq_getElem?_getD, List.getElem?_set]
    split
    · split
      · simp; omega
      · have := hr k; simp at this ⊢; omega
    · have := hr k; rwa [List.getD_eq_getElem?_getD] at this

theorem belowM_fine {B : Nat} {ab : List Int} {M : Int} (h0 : 0 ≤ M) (h : ∀ k, ab.getD k 0 ≤ M) : ∀ q ∈ belowM B ab, q.length = 4 ∧ ∀ k, 0 ≤ q.getD k 0 ∧ q.getD k 0 ≤ M := fun q hq =>
  ⟨bel_length B 0 _ q hq, bel_range h B 0 _ (fun k => by
    match k with
    | 0 => exact ⟨Int.le_refl 0, h0⟩
    | 1 => exact ⟨Int.le_refl 0, h0⟩
    | 2 => exact ⟨Int.le_refl 0, h0⟩
    | 3 => exact ⟨Int.le_refl 0, h0⟩
    | k + 4 => exact ⟨Int.le_refl 0, h0⟩) q hq⟩

theorem belowM_count {B : Nat} {ab : List Int} (hB : B ≤ 4) (h : ∀ k, ab.getD k 0 ≤ 4) : (belowM B ab).length ≤ 625 :=
  Nat.le_trans (bel_count (m := 5) (fun j => by have := h j; omega) B 0 _) (Nat.le_trans (Nat.pow_le_pow_right (by decide) hB) (by decide))

theorem sum_bound {f : List Int → Int} {b : Int} : ∀ (l : List (List Int)), (∀ q ∈ l, 0 ≤ f q ∧ f q ≤ b) → 0 ≤ (l.map f).sum ∧ (l.map f).sum ≤ l.length * b
  | [], _ => by simp
  | x :: l, h => by
    have h1 := h x (by simp)
    have h2 := sum_bound l (fun q hq => h q (by simp [hq]))
    simp only [List.map_cons, List.sum_cons, List.length_cons]
    have e : ((l.length + 1 : Nat) : Int) * b = l.length * b + b := by rw [Int.natCast_add, Int.add_mul]; simp
    rw [e]; omega

theorem ways_bound {B : Nat} (hB : B ≤ 4) : ∀ (n : Nat) (ab : List Int), (∀ k, ab.getD k 0 ≤ 4) → 0 ≤ waysM B n ab ∧ waysM B n ab ≤ ((625 ^ n : Nat) : Int)
  | 0, ab, _ => by simp [waysM]
  | n + 1, ab, h => by
    have h1 := sum_bound (f := waysM B n) (b := ((625 ^ n : Nat) : Int)) (belowM B ab) fun q hq => ways_bound hB n q fun k => ((belowM_fine (by decide) h q hq).2 k).2
    have h2 := belowM_count hB h
    refine ⟨h1.1, Int.le_trans h1.2 ?_⟩
    rw [Nat.pow_succ, Nat.mul_comm]
    have : (belowM B ab).length * 625 ^ n ≤ 625 * 625 ^ n := Nat.mul_le_mul_right _ h2
    have e : (((belowM B ab).length * 625 ^ n : Nat) : Int) = ((belowM B ab).length : Int) * ((625 ^ n : Nat) : Int) := by simp
    rw [← e]; omega

theorem ways_le {B n : Nat} {ab : List Int} (hB : B ≤ 4) (hn : n ≤ 4) (h : ∀ k, ab.getD k 0 ≤ 4) : 0 ≤ waysM B n ab ∧ waysM B n ab ≤ 152587890625 := by
  have := ways_bound hB n ab h
  have h2 : 625 ^ n ≤ 625 ^ 4 := Nat.pow_le_pow_right (by decide) hn
  have h3 : 625 ^ 4 = 152587890625 := by decide
  omega

theorem sum_take_le {f : List Int → Int} {l : List (List Int)} (h : ∀ q ∈ l, 0 ≤ f q) (i : Nat) : 0 ≤ ((l.take i).map f).sum ∧ ((l.take i).map f).sum ≤ (l.map f).sum := by
  have key : ∀ l : List (List Int), (∀ q ∈ l, 0 ≤ f q) → 0 ≤ (l.map f).sum := by
    intro l
    induction l with
    | nil => simp
    | cons x l ih =>
      intro h
      have := h x (by simp)
      have := ih fun q hq => h q (by simp [hq])
      simp only [List.map_cons, List.sum_cons]; omega
  refine ⟨key _ fun q hq => h q (List.mem_of_mem_take hq), ?_⟩
  have h2 := key (l.drop i) fun q hq => h q (List.mem_of_mem_drop hq)
  have e : (l.map f).sum = ((l.take i).map f).sum + ((l.drop i).map f).sum := by
    rw [← List.sum_append, ← List.map_append, List.take_append_drop]
  omega

theorem sum_take_succ {f : List Int → Int} {l : List (List Int)} {i : Nat} (h : i < l.length) : ((l.take (i + 1)).map f).sum = ((l.take i).map f).sum + f (l.getD i []) := by
  rw [List.take_succ_eq_append_getElem h, List.map_append, List.sum_append]
  simp only [List.map_cons, List.map_nil, List.sum_cons, List.sum_nil, Int.add_zero, List.getD_eq_getElem?_getD, List.getElem?_eq_getElem h, Option.getD_some]

end Go.Hp

namespace Go.Proofs.Ytaephdjmpmbfpaa
open Go.Lf Go.RowKit Go.Hp

theorem bd88 (l : Int) {r : List Int} (h : r.length = 4) (K : Value → Prop) : bdQ Try.prog 88 [(0, .int .i64 l), (1, .agg (intCells r).toArray)] K = K (placeV l r) := by
  have h4 : ∀ (a b c d : Int), bdQ Try.prog 88 [(0, .int .i64 l), (1, .agg (intCells [a, b, c, d]).toArray)] K = K (placeV l [a, b, c, d]) := fun a b c d => by kernel_rfl
  match r, h with
  | [a, b, c, d], _ => exact h4 a b c d

theorem flat4 {rows : List (List Int)} (h4 : ∀ r ∈ rows, r.length = 4) {i : Nat} (hi : i < rows.length) : ((rows.flatMap intCells).drop (i * 4)).take 4 = intCells (rows.getD i []) := by
  induction rows generalizing i with
  | nil => cases hi
  | cons r rows ih =>
    have hr : (intCells r).length = 4 := by rw [intCells_length]; exact h4 r (by simp)
    cases i with
    | zero => simp [List.take_append_of_le_length, hr, List.take_of_length_le]
    | succ i =>
      have := ih (fun q hq => h4 q (by simp [hq])) (i := i) (by simpa using hi)
      simp only [List.flatMap_cons, List.getD_cons_succ]
      rw [List.drop_append, List.drop_eq_nil_of_le (by omega), List.nil_append, show (i + 1) * 4 - (intCells r).length = i * 4 by omega]
      exact this

/-- A row read out of a slice of rows. -/
theorem rows4 {w : World} {base : Nat} {v : Value} {rows : List (List Int)} (ho : w.ownsRow base 80 4 v rows.length (rows.flatMap intCells)) (h4 : ∀ r ∈ rows, r.length = 4) {i : Nat} (hi : i < rows.length) :
    ∃ g cap cur, v = .slice (some ⟨g, 0, none⟩) rows.length cap ∧ base ≤ g ∧ w.heap[g]? = some (.cells cur 80 (0, 0)) ∧ i * 4 + 4 ≤ cur.size ∧ (cur.toList.drop (i * 4)).take 4 = intCells (rows.getD i []) := by
  rcases ho.2 with ⟨rfl, h0⟩ | ⟨g, cap, cur, rfl, hb, hg, hle, hm, hs, ht⟩
  · omega
  · refine ⟨g, cap, cur, rfl, hb, hg, by omega, ?_⟩
    rw [← flat4 h4 hi, ← ht, List.drop_take, List.take_take, Nat.min_eq_left (by omega)]

theorem owned_len {w : World} {base n size : Nat} {e : TypeId} {v : Value} {xs : List Value} (h : w.ownsRow base e size v n xs) : ∃ a cap, v = .slice a n cap := by
  rcases h.2 with ⟨rfl, rfl⟩ | ⟨g, cap, cur, rfl, _⟩
  · exact ⟨none, 0, rfl⟩
  · exact ⟨_, cap, rfl⟩

/-- What the map of a counter knows. -/
abbrev knownF (B : Nat) : Int → List Int → Int := fun l r => waysM B l.toNat r

set_option maxRecDepth 100000 in
theorem ways_calls (A C : Int) (B m : Nat) (hB : B ≤ 4) : ∀ (n : Nat) (ab : List Int) (w : World), n ≤ 4 → ab.length = 4 → (∀ k, 0 ≤ ab.getD k 0 ∧ ab.getD k 0 ≤ 4) → MemoAt w m (knownF B) →
    Calls Try.prog 57 #[counterV A B C m, placeV n ab] w fun e w' => e = .returned (.int .i64 (waysM B n ab)) ∧ MemoAt w' m (knownF B) ∧ Chg (fun k => k = m) w w' := by
  intro n
  induction n with
  | zero =>
    intro ab w hn hl hr hm
    refine lift57 ?_
    unfold S57
    refine r_box fun b0 w1 e1 s1 h1 k1 => ?_
    refine r_box fun b1 w2 e2 s2 h2 k2 => ?_
    have c1 : w2.cell? ⟨b1, 0, none⟩ = some (.int .i64 (0 : Nat)) := by rw [cell_row h2]; rfl
    simp (disch := omega) only [r_ln, r_pick, r_pickT, r_pickF, r_condT, r_condF, r_gdTT, r_gdFF, r_gdTF, r_gdFT, r_gqTT, r_gqFF, r_gqTF, r_gqFT, r_not, r_lss, r_leq, r_gtr, r_geq, r_eql, r_neq, r_add, r_sub, r_min2, r_max2, r_min3, r_max3, r_fa, r_iaS, r_iaA, r_ex2a, r_ex2b, r_ex3a, r_ex3b, r_ex3c, r_nc, r_keepE, Nat.zero_add, Nat.add_zero, Nat.mul_one, Int.toNat_natCast, toNat_sub1, toNat_add1, decide_true, decide_false, Bool.not_true, Bool.not_false, if_true, if_false, Bool.false_eq_true, reduceCtorEq, r_ld c1]
    exact ⟨rfl, hm.kp (Kp.trans k1 k2), Chg.of_kp (Kp.trans k1 k2)⟩
  | succ n ih =>
    intro ab w hn hl hr hm
    refine lift57 ?_
    unfold S57
    refine r_box fun b0 w1 e1 s1 h1 k1 => ?_
    refine r_box fun b1 w2 e2 s2 h2 k2 => ?_
    have hk12 := Kp.trans k1 k2
    have hfine : Fine ((n + 1 : Nat) : Int) ab := ⟨hl, by omega, fun k => by have := hr k; omega⟩
    have hm2 := hm.kp hk12
    have hmlt := hm.lt
    have h12 := block_below h1 k2
    have c1 : w2.cell? ⟨b1, 0, none⟩ = some (.int .i64 (n + 1 : Nat)) := by rw [cell_row h2]; rfl
    have c0 : w2.cell? ⟨b0, 3, none⟩ = some (.map (some m)) := by rw [cell_row h12]; rfl
    have hne : ¬ ((n + 1 : Nat) : Int) = 0 := by omega
    have hsz2 : (placeV ((n + 1 : Nat) : Int) ab).cells.size = 5 := by simp [Value.cells, intCells, hl]
    simp (disch := omega) only [r_ln, r_pick, r_pickT, r_pickF, r_condT, r_condF, r_gdTT, r_gdFF, r_gdTF, r_gdFT, r_gqTT, r_gqFF, r_gqTF, r_gqFT, r_not, r_lss, r_leq, r_gtr, r_geq, r_eql, r_neq, r_add, r_sub, r_min2, r_max2, r_min3, r_max3, r_fa, r_iaS, r_iaA, r_ex2a, r_ex2b, r_ex3a, r_ex3b, r_ex3c, r_nc, r_keepE, Nat.zero_add, Nat.add_zero, Nat.mul_one, Int.toNat_natCast, toNat_sub1, toNat_add1, decide_true, decide_false, Bool.not_true, Bool.not_false, if_true, if_false, Bool.false_eq_true, reduceCtorEq, r_ld c1, hne, r_ld c0, r_ldRow (n := 5) h2 hsz2, agg_cells]
    refine r_look hm2 hfine ?_ ?_
    · simp (disch := omega) only [r_ln, r_pick, r_pickT, r_pickF, r_condT, r_condF, r_gdTT, r_gdFF, r_gdTF, r_gdFT, r_gqTT, r_gqFF, r_gqTF, r_gqFT, r_not, r_lss, r_leq, r_gtr, r_geq, r_eql, r_neq, r_add, r_sub, r_min2, r_max2, r_min3, r_max3, r_fa, r_iaS, r_iaA, r_ex2a, r_ex2b, r_ex3a, r_ex3b, r_ex3c, r_nc, r_keepE, Nat.zero_add, Nat.add_zero, Nat.mul_one, Int.toNat_natCast, toNat_sub1, toNat_add1, decide_true, decide_false, Bool.not_true, Bool.not_false, if_true, if_false, Bool.false_eq_true, reduceCtorEq]
      exact ⟨by simp [knownF], hm2, Chg.of_kp hk12⟩
    have hrow1 : ((placeV ((n + 1 : Nat) : Int) ab).cells.toList.drop 1).take 4 = intCells ab := by
      simp [Value.cells, List.take_of_length_le, intCells, hl]
    have hrow0 : ((counterV A B C m).cells.toList.drop 0).take 3 = [.int .i64 A, .int .i64 B, .int .i64 C] := rfl
    simp (disch := omega) only [r_ln, r_pick, r_pickT, r_pickF, r_condT, r_condF, r_gdTT, r_gdFF, r_gdTF, r_gdFT, r_gqTT, r_gqFF, r_gqTF, r_gqFT, r_not, r_lss, r_leq, r_gtr, r_geq, r_eql, r_neq, r_add, r_sub, r_min2, r_max2, r_min3, r_max3, r_fa, r_iaS, r_iaA, r_ex2a, r_ex2b, r_ex3a, r_ex3b, r_ex3c, r_nc, r_keepE, Nat.zero_add, Nat.add_zero, Nat.mul_one, Int.toNat_natCast, toNat_sub1, toNat_add1, decide_true, decide_false, Bool.not_true, Bool.not_false, if_true, if_false, Bool.false_eq_true, reduceCtorEq, r_ldAt (n := 3) h12 (by show 0 + 3 ≤ 4; decide) hrow0, r_ldAt (n := 4) h2 (by omega) hrow1]
    refine r_use fok55 (below_calls A C B ab w2 hB hl fun k => by have := hr k; omega) rfl ?_
    rintro _ w3 ⟨v, rfl, hk3, ho⟩
    refine ⟨_, rfl, ?_⟩
    have hfr := belowM_fine (B := B) (M := 4) (by decide) fun k => (hr k).2
    have hcount := belowM_count (B := B) (ab := ab) hB fun k => (hr k).2
    have hwdef : waysM B (n + 1) ab = ((belowM B ab).map (waysM B n)).sum := rfl
    have hwle := ways_le (B := B) (n := n + 1) (ab := ab) hB hn fun k => (hr k).2
    rw [hwdef] at hwle ⊢
    have h4 : ∀ r ∈ belowM B ab, r.length = 4 := fun r hr => (hfr r hr).1
    have hnn : ∀ q ∈ belowM B ab, 0 ≤ waysM B n q := fun q hq => (ways_le hB (by omega) fun k => ((hfr q hq).2 k).2).1
    have hknow : knownF B ((n + 1 : Nat) : Int) ab = ((belowM B ab).map (waysM B n)).sum := by simp [knownF, hwdef]
    generalize belowM B ab = rows at *
    obtain ⟨va, vc, rfl⟩ := owned_len ho
    simp (disch := omega) only [r_ln, r_pick, r_pickT, r_pickF, r_condT, r_condF, r_gdTT, r_gdFF, r_gdTF, r_gdFT, r_gqTT, r_gqFF, r_gqTF, r_gqFT, r_not, r_lss, r_leq, r_gtr, r_geq, r_eql, r_neq, r_add, r_sub, r_min2, r_max2, r_min3, r_max3, r_fa, r_iaS, r_iaA, r_ex2a, r_ex2b, r_ex3a, r_ex3b, r_ex3c, r_nc, r_keepE, Nat.zero_add, Nat.add_zero, Nat.mul_one, Int.toNat_natCast, toNat_sub1, toNat_add1, decide_true, decide_false, Bool.not_true, Bool.not_false, if_true, if_false, Bool.false_eq_true, reduceCtorEq]
    refine ⟨fun t7 t28 wr => ∃ i : Nat, i ≤ rows.length ∧ t28 = .int .i64 i ∧ t7 = .int .i64 ((rows.take i).map (waysM B n)).sum ∧ MemoAt wr m (knownF B) ∧ Chg (fun k => k = m) w3 wr,
      fun _ t28 _ => rows.length - (intOf t28).toNat, ⟨0, by omega, rfl, by simp, hm2.kp hk3, Chg.refl _ _⟩, ?_⟩
    rintro _ _ _ wr ⟨i, hi, rfl, rfl, hmr, hch⟩
    have hkk : Kp w w3 := Kp.trans hk12 hk3
    have hb1 : wr.heap[b1]? = some (.cells (placeV ((n + 1 : Nat) : Int) ab).cells 88 (0, 0)) := hch.at (block_below h2 hk3) (by omega)
    have hb0 : wr.heap[b0]? = some (.cells (counterV A B C m).cells 77 (0, 0)) := hch.at (block_below h12 hk3) (by omega)
    have hor := owns_chg ho hch fun k hk e => by have := owned_block ho hk; omega
    have d1 : wr.cell? ⟨b1, 0, none⟩ = some (.int .i64 (n + 1 : Nat)) := by rw [cell_row hb1]; rfl
    have d0 : wr.cell? ⟨b0, 3, none⟩ = some (.map (some m)) := by rw [cell_row hb0]; rfl
    have hst := sum_take_le hnn i
    by_cases hlt : i < rows.length
    case neg =>
      have hlt' : ¬ (i : Int) < (rows.length : Int) := by omega
      have e : i = rows.length := by omega
      subst e
      rw [List.take_of_length_le (Nat.le_refl _)] at *
      simp (disch := omega) only [r_ln, r_pick, r_pickT, r_pickF, r_condT, r_condF, r_gdTT, r_gdFF, r_gdTF, r_gdFT, r_gqTT, r_gqFF, r_gqTF, r_gqFT, r_not, r_lss, r_leq, r_gtr, r_geq, r_eql, r_neq, r_add, r_sub, r_min2, r_max2, r_min3, r_max3, r_fa, r_iaS, r_iaA, r_ex2a, r_ex2b, r_ex3a, r_ex3b, r_ex3c, r_nc, r_keepE, Nat.zero_add, Nat.add_zero, Nat.mul_one, Int.toNat_natCast, toNat_sub1, toNat_add1, decide_true, decide_false, Bool.not_true, Bool.not_false, if_true, if_false, Bool.false_eq_true, reduceCtorEq, hlt', r_ld d0, r_ldRow (n := 5) hb1 hsz2, agg_cells]
      rw [← hknow]
      exact r_store hmr hfine fun w5 hm5 hc5 hs5 => ⟨trivial, hm5, ((Chg.of_kp hkk).trans hch).trans hc5⟩
    have hlt' : (i : Int) < (rows.length : Int) := by omega
    obtain ⟨g, cap, cur, e, hgb, hg, hgs, hrow⟩ := rows4 hor h4 hlt
    cases e
    have hmem : rows.getD i [] ∈ rows := by rw [getD_lt _ _ _ hlt]; exact List.getElem_mem hlt
    have hl4 := h4 _ hmem
    simp (disch := omega) only [r_ln, r_pick, r_pickT, r_pickF, r_condT, r_condF, r_gdTT, r_gdFF, r_gdTF, r_gdFT, r_gqTT, r_gqFF, r_gqTF, r_gqFT, r_not, r_lss, r_leq, r_gtr, r_geq, r_eql, r_neq, r_add, r_sub, r_min2, r_max2, r_min3, r_max3, r_fa, r_iaS, r_iaA, r_ex2a, r_ex2b, r_ex3a, r_ex3b, r_ex3c, r_nc, r_keepE, Nat.zero_add, Nat.add_zero, Nat.mul_one, Int.toNat_natCast, toNat_sub1, toNat_add1, decide_true, decide_false, Bool.not_true, Bool.not_false, if_true, if_false, Bool.false_eq_true, reduceCtorEq, hlt', r_ldAt (n := 4) hg hgs hrow]
    refine r_box fun b2 w4 e4 s4 hb4 k4 => ?_
    refine r_stAll (n := 4) (ty := 80) (v := .agg (intCells (rows.getD i [])).toArray) (cs := (Value.agg #[.int .i64 0, .int .i64 0, .int .i64 0, .int .i64 0]).cells) (by kernel_rfl) (by rw [rowV_size]; exact hl4) (rowV_one _) hb4 rfl fun w5 hc5 hs5 hb5 => ?_
    have f1 : w5.cell? ⟨b1, 0, none⟩ = some (.int .i64 (n + 1 : Nat)) := by rw [cell_row (hc5.at (block_below hb1 k4) (by have := block_lt hb1; omega))]; rfl
    have f0 : w5.heap[b0]? = some (.cells (counterV A B C m).cells 77 (0, 0)) := hc5.at (block_below hb0 k4) (by have := block_lt hb0; omega)
    have hm5 : MemoAt w5 m (knownF B) := (hmr.kp k4).chg hc5 (by have := hmr.lt; omega)
    have en : ((n + 1 : Nat) : Int) - 1 = (n : Nat) := by omega
    simp (disch := omega) only [r_ln, r_pick, r_pickT, r_pickF, r_condT, r_condF, r_gdTT, r_gdFF, r_gdTF, r_gdFT, r_gqTT, r_gqFF, r_gqTF, r_gqFT, r_not, r_lss, r_leq, r_gtr, r_geq, r_eql, r_neq, r_add, r_sub, r_min2, r_max2, r_min3, r_max3, r_fa, r_iaS, r_iaA, r_ex2a, r_ex2b, r_ex3a, r_ex3b, r_ex3c, r_nc, r_keepE, Nat.zero_add, Nat.add_zero, Nat.mul_one, Int.toNat_natCast, toNat_sub1, toNat_add1, decide_true, decide_false, Bool.not_true, Bool.not_false, if_true, if_false, Bool.false_eq_true, reduceCtorEq, r_ld f1, r_ldRow (n := 4) f0 rfl, r_ldRow (n := 4) hb5 (by rw [rowV_size]; exact hl4), agg_cells, en, bd88 _ hl4]
    refine r_use fok57 (ih (rows.getD i []) w5 (by omega) hl4 (fun k => (hfr _ hmem).2 k) hm5) rfl ?_
    rintro _ w6 ⟨rfl, hm6, hc6⟩
    refine ⟨_, rfl, ?_⟩
    have hst1 := sum_take_le hnn (i + 1)
    rw [sum_take_succ hlt] at hst1
    simp (disch := omega) only [r_ln, r_pick, r_pickT, r_pickF, r_condT, r_condF, r_gdTT, r_gdFF, r_gdTF, r_gdFT, r_gqTT, r_gqFF, r_gqTF, r_gqFT, r_not, r_lss, r_leq, r_gtr, r_geq, r_eql, r_neq, r_add, r_sub, r_min2, r_max2, r_min3, r_max3, r_fa, r_iaS, r_iaA, r_ex2a, r_ex2b, r_ex3a, r_ex3b, r_ex3c, r_nc, r_keepE, Nat.zero_add, Nat.add_zero, Nat.mul_one, Int.toNat_natCast, toNat_sub1, toNat_add1, decide_true, decide_false, Bool.not_true, Bool.not_false, if_true, if_false, Bool.false_eq_true, reduceCtorEq]
    refine ⟨⟨i + 1, by omega, by go_num, by rw [sum_take_succ hlt], hm6, ?_⟩, by simp only [intOf]; omega⟩
    exact (hch.trans (Chg.of_kp (Kp.of_chg k4 hc5 fun k e => by omega))).trans hc6

/-- How many heaps there are. -/
def countN (A B C : Int) : Int := if validB A B C = true then waysM B.toNat A.toNat (topRow B.toNat C) else 0

theorem topRow_range {B : Nat} {C : Int} (h0 : 0 ≤ C) (h4 : C ≤ 4) (k : Nat) : 0 ≤ (topRow B C).getD k 0 ∧ (topRow B C).getD k 0 ≤ 4 := by
  unfold topRow
  rw [List.getD_eq_getElem?_getD, List.getElem?_append]
  simp only [List.length_replicate, List.getElem?_replicate]
  split
  · simp [*]
  · split <;> simp

theorem memo_empty {w : World} {m c : Nat} (f : Int → List Int → Int) (h : w.heap[m]? = some (.map #[] c)) : MemoAt w m f := ⟨#[], c, h, by simp⟩

set_option maxRecDepth 100000 in
theorem countf_calls (A B C : Int) (w : World) : Calls Try.prog 21 #[boxV A B C] w fun e w' => e = .returned (.tuple #[.int .i64 (countN A B C), .int .i64 (boxErr A B C)]) ∧ Kp w w' := by
  refine lift21 ?_
  unfold S21
  refine r_box fun b w1 hbw hsz hb hk => ?_
  simp (disch := omega) only [r_ln, r_pick, r_pickT, r_pickF, r_condT, r_condF, r_gdTT, r_gdFF, r_gdTF, r_gdFT, r_gqTT, r_gqFF, r_gqTF, r_gqFT, r_not, r_lss, r_leq, r_gtr, r_geq, r_eql, r_neq, r_add, r_sub, r_min2, r_max2, r_min3, r_max3, r_fa, r_iaS, r_iaA, r_ex2a, r_ex2b, r_ex3a, r_ex3b, r_ex3c, r_nc, r_keepE, Nat.zero_add, Nat.add_zero, Nat.mul_one, Int.toNat_natCast, toNat_sub1, toNat_add1, decide_true, decide_false, Bool.not_true, Bool.not_false, if_true, if_false, Bool.false_eq_true, reduceCtorEq, r_ldRow (n := 3) hb rfl]
  refine r_use fok58 (valid_calls A B C w1) rfl ?_
  rintro e w2 ⟨rfl, hk2⟩
  refine ⟨_, rfl, ?_⟩
  have hkw2 := Kp.trans hk hk2
  have hb2 := block_below hb hk2
  by_cases hv : validB A B C = true
  case neg =>
    have hv' : validB A B C = false := by simpa using hv
    simp (disch := omega) only [r_ln, r_pick, r_pickT, r_pickF, r_condT, r_condF, r_gdTT, r_gdFF, r_gdTF, r_gdFT, r_gqTT, r_gqFF, r_gqTF, r_gqFT, r_not, r_lss, r_leq, r_gtr, r_geq, r_eql, r_neq, r_add, r_sub, r_min2, r_max2, r_min3, r_max3, r_fa, r_iaS, r_iaA, r_ex2a, r_ex2b, r_ex3a, r_ex3b, r_ex3c, r_nc, r_keepE, Nat.zero_add, Nat.add_zero, Nat.mul_one, Int.toNat_natCast, toNat_sub1, toNat_add1, decide_true, decide_false, Bool.not_true, Bool.not_false, if_true, if_false, Bool.false_eq_true, reduceCtorEq, hv']
    exact ⟨by simp [countN, boxErr, hv'], hkw2⟩
  obtain ⟨a, b', c, rfl, rfl, rfl, h1, h2, h3, h4, h5, h6⟩ := validB_nat hv
  simp (disch := omega) only [r_ln, r_pick, r_pickT, r_pickF, r_condT, r_condF, r_gdTT, r_gdFF, r_gdTF, r_gdFT, r_gqTT, r_gqFF, r_gqTF, r_gqFT, r_not, r_lss, r_leq, r_gtr, r_geq, r_eql, r_neq, r_add, r_sub, r_min2, r_max2, r_min3, r_max3, r_fa, r_iaS, r_iaA, r_ex2a, r_ex2b, r_ex3a, r_ex3b, r_ex3c, r_nc, r_keepE, Nat.zero_add, Nat.add_zero, Nat.mul_one, Int.toNat_natCast, toNat_sub1, toNat_add1, decide_true, decide_false, Bool.not_true, Bool.not_false, if_true, if_false, Bool.false_eq_true, reduceCtorEq, hv]
  refine r_drew fun w3 hk3 _ => ?_
  have hb3 := block_below hb2 hk3
  obtain ⟨c0, c1, c2⟩ := box3 hb3
  simp (disch := omega) only [r_ln, r_pick, r_pickT, r_pickF, r_condT, r_condF, r_gdTT, r_gdFF, r_gdTF, r_gdFT, r_gqTT, r_gqFF, r_gqTF, r_gqFT, r_not, r_lss, r_leq, r_gtr, r_geq, r_eql, r_neq, r_add, r_sub, r_min2, r_max2, r_min3, r_max3, r_fa, r_iaS, r_iaA, r_ex2a, r_ex2b, r_ex3a, r_ex3b, r_ex3c, r_nc, r_keepE, Nat.zero_add, Nat.add_zero, Nat.mul_one, Int.toNat_natCast, toNat_sub1, toNat_add1, decide_true, decide_false, Bool.not_true, Bool.not_false, if_true, if_false, Bool.false_eq_true, reduceCtorEq, r_ldRow (n := 3) hb3 rfl, r_ld c0]
  refine r_use fok52 (count_calls a b' c w3) rfl ?_
  rintro _ w4 ⟨m, rfl, hk4, hm0, hm4⟩
  refine ⟨_, rfl, hk4, ?_⟩
  refine r_use fok53 (top_calls a c b' w4 (by omega)) rfl ?_
  rintro _ w5 ⟨rfl, hk5⟩
  refine ⟨_, rfl, hk5, ?_⟩
  have hl4 : (topRow b' c).length = 4 := topRow_length (by omega)
  simp (disch := omega) only [r_ln, r_pick, r_pickT, r_pickF, r_condT, r_condF, r_gdTT, r_gdFF, r_gdTF, r_gdFT, r_gqTT, r_gqFF, r_gqTF, r_gqFT, r_not, r_lss, r_leq, r_gtr, r_geq, r_eql, r_neq, r_add, r_sub, r_min2, r_max2, r_min3, r_max3, r_fa, r_iaS, r_iaA, r_ex2a, r_ex2b, r_ex3a, r_ex3b, r_ex3c, r_nc, r_keepE, Nat.zero_add, Nat.add_zero, Nat.mul_one, Int.toNat_natCast, toNat_sub1, toNat_add1, decide_true, decide_false, Bool.not_true, Bool.not_false, if_true, if_false, Bool.false_eq_true, reduceCtorEq, bd88 _ hl4]
  refine r_use fok57 (ways_calls a c b' m (by omega) a (topRow b' c) w5 (by omega) hl4 (topRow_range (by omega) (by omega)) (memo_empty _ (block_below hm4 hk5))) rfl ?_
  rintro _ w6 ⟨rfl, hm6, hc6⟩
  refine ⟨_, rfl, ?_⟩
  refine ⟨by simp [countN, boxErr, hv], ?_⟩
  have hk05 : Kp w w5 := Kp.trans hkw2 (Kp.trans hk3 (Kp.trans hk4 hk5))
  exact Kp.of_chg hk05 hc6 fun i e => by have := hkw2.size; have := hk3.size; omega

end Go.Proofs.Ytaephdjmpmbfpaa

/- Contracts: checked, Rank. -/
namespace Go.Proofs.Ytaephdjmpmbfpaa
open Go.Lf Go.RowKit Go.Hp

/-- The row above row i. -/
def lastM (B : Nat) (C : Int) (h : List (List Int)) (i : Nat) : List Int := if i = 0 then topRow B C else row4 (h.getD (i - 1) [])
def lessF (B n : Nat) (own r : List Int) : Int := if cmpL r own < 0 then waysM B n r else 0
def rankRow (B n : Nat) (last own : List Int) : Int := ((belowM B last).map (lessF B n own)).sum
def rankM (A B : Nat) (C : Int) (h : List (List Int)) : Nat → Int := sumTo fun i => rankRow B (A - 1 - i) (lastM B C h i) (row4 (h.getD i []))


/-- The error for a heap that is none. -/
def heapErr (A B C : Int) (h : List (List Int)) : Int := if validB A B C = true ∧ heapOk A B C h = true then 0 else 2

set_option maxRecDepth 100000 in
theorem checked_calls (A B C : Int) (v : Value) (h : List (List Int)) (w : World) (hr : RdRows w v h) : Calls Try.prog 47 #[boxV A B C, v] w fun e w' => e = .returned (.int .i64 (heapErr A B C h)) ∧ Kp w w' := by
  refine lift47 ?_
  unfold S47
  refine r_box fun b w1 hbw hsz hb hk => ?_
  simp (disch := omega) only [r_ln, r_pick, r_pickT, r_pickF, r_condT, r_condF, r_gdTT, r_gdFF, r_gdTF, r_gdFT, r_gqTT, r_gqFF, r_gqTF, r_gqFT, r_not, r_lss, r_leq, r_gtr, r_geq, r_eql, r_neq, r_add, r_sub, r_min2, r_max2, r_min3, r_max3, r_fa, r_iaS, r_iaA, r_ex2a, r_ex2b, r_ex3a, r_ex3b, r_ex3c, r_nc, r_keepE, Nat.zero_add, Nat.add_zero, Nat.mul_one, Int.toNat_natCast, toNat_sub1, toNat_add1, decide_true, decide_false, Bool.not_true, Bool.not_false, if_true, if_false, Bool.false_eq_true, reduceCtorEq, r_ldRow (n := 3) hb rfl]
  refine r_use fok58 (valid_calls A B C w1) rfl ?_
  rintro e w2 ⟨rfl, hk2⟩
  refine ⟨_, rfl, ?_⟩
  have hkw2 := Kp.trans hk hk2
  have hb2 := block_below hb hk2
  by_cases hv : validB A B C = true
  case neg =>
    have hv' : validB A B C = false := by simpa using hv
    simp (disch := omega) only [r_ln, r_pick, r_pickT, r_pickF, r_condT, r_condF, r_gdTT, r_gdFF, r_gdTF, r_gdFT, r_gqTT, r_gqFF, r_gqTF, r_gqFT, r_not, r_lss, r_leq, r_gtr, r_geq, r_eql, r_neq, r_add, r_sub, r_min2, r_max2, r_min3, r_max3, r_fa, r_iaS, r_iaA, r_ex2a, r_ex2b, r_ex3a, r_ex3b, r_ex3c, r_nc, r_keepE, Nat.zero_add, Nat.add_zero, Nat.mul_one, Int.toNat_natCast, toNat_sub1, toNat_add1, decide_true, decide_false, Bool.not_true, Bool.not_false, if_true, if_false, Bool.false_eq_true, reduceCtorEq, hv']
    exact ⟨by simp [heapErr, hv'], hkw2⟩
  simp (disch := omega) only [r_ln, r_pick, r_pickT, r_pickF, r_condT, r_condF, r_gdTT, r_gdFF, r_gdTF, r_gdFT, r_gqTT, r_gqFF, r_gqTF, r_gqFT, r_not, r_lss, r_leq, r_gtr, r_geq, r_eql, r_neq, r_add, r_sub, r_min2, r_max2, r_min3, r_max3, r_fa, r_iaS, r_iaA, r_ex2a, r_ex2b, r_ex3a, r_ex3b, r_ex3c, r_nc, r_keepE, Nat.zero_add, Nat.add_zero, Nat.mul_one, Int.toNat_natCast, toNat_sub1, toNat_add1, decide_true, decide_false, Bool.not_true, Bool.not_false, if_true, if_false, Bool.false_eq_true, reduceCtorEq, hv, r_ldRow (n := 3) hb2 rfl]
  refine r_use fok67 (is_calls A B C v h w2 (hr.below hkw2)) rfl ?_
  rintro e w3 ⟨rfl, hk3⟩
  refine ⟨_, rfl, ?_⟩
  by_cases ho : heapOk A B C h = true
  · simp (disch := omega) only [r_ln, r_pick, r_pickT, r_pickF, r_condT, r_condF, r_gdTT, r_gdFF, r_gdTF, r_gdFT, r_gqTT, r_gqFF, r_gqTF, r_gqFT, r_not, r_lss, r_leq, r_gtr, r_geq, r_eql, r_neq, r_add, r_sub, r_min2, r_max2, r_min3, r_max3, r_fa, r_iaS, r_iaA, r_ex2a, r_ex2b, r_ex3a, r_ex3b, r_ex3c, r_nc, r_keepE, Nat.zero_add, Nat.add_zero, Nat.mul_one, Int.toNat_natCast, toNat_sub1, toNat_add1, decide_true, decide_false, Bool.not_true, Bool.not_false, if_true, if_false, Bool.false_eq_true, reduceCtorEq, ho]
    exact ⟨by simp [heapErr, hv, ho], Kp.trans hkw2 hk3⟩
  · have ho' : heapOk A B C h = false := by simpa using ho
    simp (disch := omega) only [r_ln, r_pick, r_pickT, r_pickF, r_condT, r_condF, r_gdTT, r_gdFF, r_gdTF, r_gdFT, r_gqTT, r_gqFF, r_gqTF, r_gqFT, r_not, r_lss, r_leq, r_gtr, r_geq, r_eql, r_neq, r_add, r_sub, r_min2, r_max2, r_min3, r_max3, r_fa, r_iaS, r_iaA, r_ex2a, r_ex2b, r_ex3a, r_ex3b, r_ex3c, r_nc, r_keepE, Nat.zero_add, Nat.add_zero, Nat.mul_one, Int.toNat_natCast, toNat_sub1, toNat_add1, decide_true, decide_false, Bool.not_true, Bool.not_false, if_true, if_false, Bool.false_eq_true, reduceCtorEq, ho']
    exact ⟨by simp [heapErr, ho'], Kp.trans hkw2 hk3⟩

theorem r_slA4 (b : Nat) (K : Value → Prop) : slA 4 1 (.pointer (some ⟨b, 0, none⟩)) none none K = K (.slice (some ⟨b, 0, none⟩) 4 4) := rfl

theorem rd_block {w : World} {b : Nat} {t : TypeId} {fr : Nat × Nat} {r : List Int} (h : w.heap[b]? = some (.cells (intCells r).toArray t fr)) (h4 : r.length = 4) : RdInts w (.slice (some ⟨b, 0, none⟩) 4 4) r := by
  refine ⟨_, 4, by rw [h4], by omega, fun _ => ⟨b, 0, rfl, fun i hi => ?_⟩⟩
  rw [Nat.zero_add, cell_row h]
  simp [intCells, hi]

theorem map_cells_ne {w : World} {m b c : Nat} {es : Array MapEntry} {cs : Array Value} {t : TypeId} {fr : Nat × Nat} (h1 : w.heap[m]? = some (.map es c)) (h2 : w.heap[b]? = some (.cells cs t fr)) : m ≠ b := by
  rintro rfl
  rw [h1] at h2
  cases h2

theorem row4_range {l : List Int} {M : Int} (h0 : 0 ≤ M) (h : ∀ k, 0 ≤ l.getD k 0 ∧ l.getD k 0 ≤ M) (k : Nat) : 0 ≤ (row4 l).getD k 0 ∧ (row4 l).getD k 0 ≤ M := by
  unfold row4
  rw [List.getD_eq_getElem?_getD, List.getElem?_append]
  split
  · have := h k; rwa [List.getD_eq_getElem?_getD] at this
  · simp only [List.getElem?_replicate]
    split <;> simp [h0]

theorem lessF_bound {B n : Nat} {own : List Int} (hB : B ≤ 4) (hn : n ≤ 4) {r : List Int} (h : ∀ k, r.getD k 0 ≤ 4) : 0 ≤ lessF B n own r ∧ lessF B n own r ≤ 152587890625 := by
  have := ways_le hB hn h
  unfold lessF
  split <;> omega

theorem rankRow_bound {B n : Nat} {last own : List Int} (hB : B ≤ 4) (hn : n ≤ 4) (h : ∀ k, last.getD k 0 ≤ 4) : 0 ≤ rankRow B n last own ∧ rankRow B n last own ≤ 95367431640625 := by
  have h1 := sum_bound (f := lessF B n own) (b := 152587890625) (belowM B last) fun q hq => lessF_bound hB hn fun k => ((belowM_fine (by decide) h q hq).2 k).2
  have h2 := belowM_count hB h
  unfold rankRow
  omega

set_option maxRecDepth 100000 in
theorem rank_calls (A B C : Int) (v : Value) (h : List (List Int)) (w : World) (hr : RdRows w v h) :
    Calls Try.prog 18 #[boxV A B C, v] w fun e w' => e = .returned (.tuple #[.int .i64 (if heapErr A B C h = 0 then rankM A.toNat B.toNat C h A.toNat else 0), .int .i64 (heapErr A B C h)]) ∧ Kp w w' := by
  refine lift18 ?_
  unfold S18
  refine r_box fun b w1 hbw hsz hb hk => ?_
  simp (disch := omega) only [r_ln, r_pick, r_pickT, r_pickF, r_condT, r_condF, r_gdTT, r_gdFF, r_gdTF, r_gdFT, r_gqTT, r_gqFF, r_gqTF, r_gqFT, r_not, r_lss, r_leq, r_gtr, r_geq, r_eql, r_neq, r_add, r_sub, r_min2, r_max2, r_min3, r_max3, r_fa, r_iaS, r_iaA, r_ex2a, r_ex2b, r_ex3a, r_ex3b, r_ex3c, r_nc, r_keepE, Nat.zero_add, Nat.add_zero, Nat.mul_one, Int.toNat_natCast, toNat_sub1, toNat_add1, decide_true, decide_false, Bool.not_true, Bool.not_false, if_true, if_false, Bool.false_eq_true, reduceCtorEq, r_ldRow (n := 3) hb rfl]
  refine r_use fok47 (checked_calls A B C v h w1 (hr.below hk)) rfl ?_
  rintro e w2 ⟨rfl, hk2⟩
  refine ⟨_, rfl, ?_⟩
  have hkw2 := Kp.trans hk hk2
  have hb2 := block_below hb hk2
  by_cases hv : validB A B C = true ∧ heapOk A B C h = true
  case neg =>
    have he : heapErr A B C h = 2 := by simp only [heapErr, if_neg hv]
    have hne : ¬ ((2 : Int) = 0) := by decide
    simp (disch := omega) only [r_ln, r_pick, r_pickT, r_pickF, r_condT, r_condF, r_gdTT, r_gdFF, r_gdTF, r_gdFT, r_gqTT, r_gqFF, r_gqTF, r_gqFT, r_not, r_lss, r_leq, r_gtr, r_geq, r_eql, r_neq, r_add, r_sub, r_min2, r_max2, r_min3, r_max3, r_fa, r_iaS, r_iaA, r_ex2a, r_ex2b, r_ex3a, r_ex3b, r_ex3c, r_nc, r_keepE, Nat.zero_add, Nat.add_zero, Nat.mul_one, Int.toNat_natCast, toNat_sub1, toNat_add1, decide_true, decide_false, Bool.not_true, Bool.not_false, if_true, if_false, Bool.false_eq_true, reduceCtorEq, he, hne]
    exact ⟨trivial, hkw2⟩
  have he : heapErr A B C h = 0 := by simp only [heapErr, if_pos hv]
  obtain ⟨hv, hok⟩ := hv
  obtain ⟨a, b', c, rfl, rfl, rfl, h1, h2, h3, hb4, h5, h6⟩ := validB_nat hv
  have hheap := heapOk_iff.1 hok
  have hlen : h.length = a := by have := hheap.len; omega
  have hrl : ∀ i, i < a → (h.getD i []).length = b' := fun i hi => by have := hheap.row i (by omega); omega
  have hrange : ∀ i k, i < a → 0 ≤ (h.getD i []).getD k 0 ∧ (h.getD i []).getD k 0 ≤ 4 := fun i k hi => by
    by_cases hkb : k < b'
    · have g1 := hheap.pos i k (by omega) (by omega)
      have g2 := hheap.top i k (by omega) (by omega)
      unfold hat at g1 g2
      omega
    · rw [List.getD_eq_getElem?_getD, List.getElem?_eq_none (by rw [hrl i hi]; omega)]
      simp
  have hlast4 : ∀ i, i ≤ a → (lastM b' c h i).length = 4 := fun i hi => by
    unfold lastM
    split
    · exact topRow_length hb4
    · exact row4_length (by rw [hrl (i - 1) (by omega)]; exact hb4)
  have hlastR : ∀ i, i ≤ a → ∀ k, 0 ≤ (lastM b' c h i).getD k 0 ∧ (lastM b' c h i).getD k 0 ≤ 4 := fun i hi k => by
    unfold lastM
    split
    · exact topRow_range (by omega) (by omega) k
    · exact row4_range (by decide) (fun k => hrange (i - 1) k (by omega)) k
  have hsum : ∀ i, i ≤ a → 0 ≤ rankM a b' c h i ∧ rankM a b' c h i ≤ i * 95367431640625 := by
    intro i
    induction i with
    | zero => intro _; simp [rankM, sumTo]
    | succ i ih =>
      intro hi
      have g1 := ih (by omega)
      have g2 := rankRow_bound (own := row4 (h.getD i [])) hb4 (show a - 1 - i ≤ 4 by omega) fun k => (hlastR i (by omega) k).2
      have e : rankM a b' c h (i + 1) = rankM a b' c h i + rankRow b' (a - 1 - i) (lastM b' c h i) (row4 (h.getD i [])) := rfl
      rw [e]; omega
  simp (disch := omega) only [he, r_neq, decide_true, Bool.not_true, r_condF]
  refine r_drew fun y0 hk0 _ => ?_
  have hkw0 := Kp.trans hkw2 hk0
  have hby0 := block_below hb2 hk0
  have hblt := block_lt hby0
  refine r_join3 (fun t7 t8 t9 w' => ∃ b7 b9 m, t7 = ptrV b7 ∧ t8 = .int .i64 0 ∧ t9 = ptrV b9 ∧ Kp y0 w' ∧ w'.heap[b7]? = some (.cells (counterV a b' c m).cells 77 (0, 0)) ∧ w'.heap[b9]? = some (.cells (intCells (topRow b' c)).toArray 80 (0, 0)) ∧
    MemoAt w' m (knownF b') ∧ y0.heap.size ≤ b7 ∧ y0.heap.size ≤ b9 ∧ y0.heap.size ≤ m ∧ b7 ≠ b9 ∧ m ≠ b7 ∧ m ≠ b9) ?_ ?_
  rotate_left
  · intro k hkk
    rw [r_ldRow (n := 3) hby0 rfl, r_ldRow (n := 3) hby0 rfl, agg_cells]
    have fin : ∀ (w' : World) (b7 b9 m : Nat), Kp y0 w' → w'.heap[b7]? = some (.cells (Value.agg #[.int .i64 0, .int .i64 0, .int .i64 0, .map none]).cells 77 (0, 0)) → w'.heap[b9]? = some (.cells (Value.agg #[.int .i64 0, .int .i64 0, .int .i64 0, .int .i64 0]).cells 80 (0, 0)) →
        w'.heap[m]? = some (.map #[] 0) → y0.heap.size ≤ b7 ∧ y0.heap.size ≤ b9 ∧ y0.heap.size ≤ m →
        stW Try.prog 77 (ptrV b7) (counterV a b' c m) w' fun w => stW Try.prog 80 (ptrV b9) (rowV (topRow b' c)) w fun w => k (ptrV b7) (.int .i64 0) (ptrV b9) w := by
      intro w' b7 b9 m hx g7 g9 gm hge
      have n79 : b7 ≠ b9 := by rintro rfl; rw [g7] at g9; cases g9
      have nm7 := map_cells_ne gm g7
      have nm9 := map_cells_ne gm g9
      refine r_stAll (n := 4) (ty := 77) (by kernel_rfl) rfl (by intro u hu; simp [Value.cells] at hu; rcases hu with rfl | rfl | rfl | rfl <;> rfl) g7 rfl fun w5 hc5 hs5 hb5 => ?_
      refine r_stAll (n := 4) (ty := 80) (by kernel_rfl) (by rw [rowV_size]; exact topRow_length hb4) (rowV_one _) (hc5.at g9 (Ne.symm n79)) rfl fun w6 hc6 hs6 hb6 => ?_
      exact hkk _ _ _ _ ⟨b7, b9, m, rfl, rfl, rfl, Kp.of_chg (Kp.of_chg hx hc5 fun i e => by omega) hc6 fun i e => by omega, hc6.at hb5 n79, hb6, memo_empty _ (hc6.at (hc5.at gm nm7) nm9), hge.1, hge.2.1, hge.2.2, n79, nm7, nm9⟩
    refine ⟨?_, ?_, ?_, trivial⟩
    · refine r_use fok52 (count_calls a b' c y0) rfl ?_
      rintro _ y1 ⟨m, rfl, x1, hm0, gm⟩
      refine ⟨_, rfl, x1, ?_⟩
      refine ⟨?_, ?_, ?_, trivial⟩
      · refine r_use fok53 (top_calls a c b' y1 hb4) rfl ?_
        rintro _ y2 ⟨rfl, x2⟩
        refine ⟨_, rfl, x2, ?_⟩
        refine ⟨?_, ?_, trivial⟩
        · refine r_box fun b7 y3 e7 s7 g7 x3 => ⟨x3, ?_⟩
          refine r_box fun b9 y4 e9 s9 g9 x4 => ⟨x4, ?_⟩
          exact fin _ _ _ _ (Kp.trans (Kp.trans (Kp.trans x1 x2) x3) x4) (block_below g7 x4) g9 (block_below gm (Kp.trans (Kp.trans x2 x3) x4)) (by have := Below.size x1; have := Below.size x2; have := Below.size x3; have := Below.size x4; omega)
        · refine r_box fun b9 y3 e9 s9 g9 x3 => ⟨x3, ?_⟩
          refine r_box fun b7 y4 e7 s7 g7 x4 => ⟨x4, ?_⟩
          exact fin _ _ _ _ (Kp.trans (Kp.trans (Kp.trans x1 x2) x3) x4) g7 (block_below g9 x4) (block_below gm (Kp.trans (Kp.trans x2 x3) x4)) (by have := Below.size x1; have := Below.size x2; have := Below.size x3; have := Below.size x4; omega)
      · refine r_box fun b7 y2 e7 s7 g7 x2 => ⟨x2, ?_⟩
        refine ⟨?_, ?_, trivial⟩
        · refine r_use fok53 (top_calls a c b' y2 hb4) rfl ?_
          rintro _ y3 ⟨rfl, x3⟩
          refine ⟨_, rfl, x3, ?_⟩
          refine r_box fun b9 y4 e9 s9 g9 x4 => ⟨x4, ?_⟩
          exact fin _ _ _ _ (Kp.trans (Kp.trans (Kp.trans x1 x2) x3) x4) (block_below g7 (Kp.trans x3 x4)) g9 (block_below gm (Kp.trans (Kp.trans x2 x3) x4)) (by have := Below.size x1; have := Below.size x2; have := Below.size x3; have := Below.size x4; omega)
        · refine r_box fun b9 y3 e9 s9 g9 x3 => ⟨x3, ?_⟩
          refine r_use fok53 (top_calls a c b' y3 hb4) rfl ?_
          rintro _ y4 ⟨rfl, x4⟩
          refine ⟨_, rfl, x4, ?_⟩
          exact fin _ _ _ _ (Kp.trans (Kp.trans (Kp.trans x1 x2) x3) x4) (block_below g7 (Kp.trans x3 x4)) (block_below g9 x4) (block_below gm (Kp.trans (Kp.trans x2 x3) x4)) (by have := Below.size x1; have := Below.size x2; have := Below.size x3; have := Below.size x4; omega)
      · refine r_box fun b9 y2 e9 s9 g9 x2 => ⟨x2, ?_⟩
        refine ⟨?_, ?_, trivial⟩
        · refine r_use fok53 (top_calls a c b' y2 hb4) rfl ?_
          rintro _ y3 ⟨rfl, x3⟩
          refine ⟨_, rfl, x3, ?_⟩
          refine r_box fun b7 y4 e7 s7 g7 x4 => ⟨x4, ?_⟩
          exact fin _ _ _ _ (Kp.trans (Kp.trans (Kp.trans x1 x2) x3) x4) g7 (block_below g9 (Kp.trans x3 x4)) (block_below gm (Kp.trans (Kp.trans x2 x3) x4)) (by have := Below.size x1; have := Below.size x2; have := Below.size x3; have := Below.size x4; omega)
        · refine r_box fun b7 y3 e7 s7 g7 x3 => ⟨x3, ?_⟩
          refine r_use fok53 (top_calls a c b' y3 hb4) rfl ?_
          rintro _ y4 ⟨rfl, x4⟩
          refine ⟨_, rfl, x4, ?_⟩
          exact fin _ _ _ _ (Kp.trans (Kp.trans (Kp.trans x1 x2) x3) x4) (block_below g7 x4) (block_below g9 (Kp.trans x3 x4)) (block_below gm (Kp.trans (Kp.trans x2 x3) x4)) (by have := Below.size x1; have := Below.size x2; have := Below.size x3; have := Below.size x4; omega)
    · refine r_box fun b7 y1 e7 s7 g7 x1 => ⟨x1, ?_⟩
      refine ⟨?_, ?_, trivial⟩
      · refine r_use fok52 (count_calls a b' c y1) rfl ?_
        rintro _ y2 ⟨m, rfl, x2, hm0, gm⟩
        refine ⟨_, rfl, x2, ?_⟩
        refine ⟨?_, ?_, trivial⟩
        · refine r_use fok53 (top_calls a c b' y2 hb4) rfl ?_
          rintro _ y3 ⟨rfl, x3⟩
          refine ⟨_, rfl, x3, ?_⟩
          refine r_box fun b9 y4 e9 s9 g9 x4 => ⟨x4, ?_⟩
          exact fin _ _ _ _ (Kp.trans (Kp.trans (Kp.trans x1 x2) x3) x4) (block_below g7 (Kp.trans (Kp.trans x2 x3) x4)) g9 (block_below gm (Kp.trans x3 x4)) (by have := Below.size x1; have := Below.size x2; have := Below.size x3; have := Below.size x4; omega)
        · refine r_box fun b9 y3 e9 s9 g9 x3 => ⟨x3, ?_⟩
          refine r_use fok53 (top_calls a c b' y3 hb4) rfl ?_
          rintro _ y4 ⟨rfl, x4⟩
          refine ⟨_, rfl, x4, ?_⟩
          exact fin _ _ _ _ (Kp.trans (Kp.trans (Kp.trans x1 x2) x3) x4) (block_below g7 (Kp.trans (Kp.trans x2 x3) x4)) (block_below g9 x4) (block_below gm (Kp.trans x3 x4)) (by have := Below.size x1; have := Below.size x2; have := Below.size x3; have := Below.size x4; omega)
      · refine r_box fun b9 y2 e9 s9 g9 x2 => ⟨x2, ?_⟩
        refine r_use fok52 (count_calls a b' c y2) rfl ?_
        rintro _ y3 ⟨m, rfl, x3, hm0, gm⟩
        refine ⟨_, rfl, x3, ?_⟩
        refine r_use fok53 (top_calls a c b' y3 hb4) rfl ?_
        rintro _ y4 ⟨rfl, x4⟩
        refine ⟨_, rfl, x4, ?_⟩
        exact fin _ _ _ _ (Kp.trans (Kp.trans (Kp.trans x1 x2) x3) x4) (block_below g7 (Kp.trans (Kp.trans x2 x3) x4)) (block_below g9 (Kp.trans x3 x4)) (block_below gm x4) (by have := Below.size x1; have := Below.size x2; have := Below.size x3; have := Below.size x4; omega)
    · refine r_box fun b9 y1 e9 s9 g9 x1 => ⟨x1, ?_⟩
      refine ⟨?_, ?_, trivial⟩
      · refine r_use fok52 (count_calls a b' c y1) rfl ?_
        rintro _ y2 ⟨m, rfl, x2, hm0, gm⟩
        refine ⟨_, rfl, x2, ?_⟩
        refine ⟨?_, ?_, trivial⟩
        · refine r_use fok53 (top_calls a c b' y2 hb4) rfl ?_
          rintro _ y3 ⟨rfl, x3⟩
          refine ⟨_, rfl, x3, ?_⟩
          refine r_box fun b7 y4 e7 s7 g7 x4 => ⟨x4, ?_⟩
          exact fin _ _ _ _ (Kp.trans (Kp.trans (Kp.trans x1 x2) x3) x4) g7 (block_below g9 (Kp.trans (Kp.trans x2 x3) x4)) (block_below gm (Kp.trans x3 x4)) (by have := Below.size x1; have := Below.size x2; have := Below.size x3; have := Below.size x4; omega)
        · refine r_box fun b7 y3 e7 s7 g7 x3 => ⟨x3, ?_⟩
          refine r_use fok53 (top_calls a c b' y3 hb4) rfl ?_
          rintro _ y4 ⟨rfl, x4⟩
          refine ⟨_, rfl, x4, ?_⟩
          exact fin _ _ _ _ (Kp.trans (Kp.trans (Kp.trans x1 x2) x3) x4) (block_below g7 x4) (block_below g9 (Kp.trans (Kp.trans x2 x3) x4)) (block_below gm (Kp.trans x3 x4)) (by have := Below.size x1; have := Below.size x2; have := Below.size x3; have := Below.size x4; omega)
      · refine r_box fun b7 y2 e7 s7 g7 x2 => ⟨x2, ?_⟩
        refine r_use fok52 (count_calls a b' c y2) rfl ?_
        rintro _ y3 ⟨m, rfl, x3, hm0, gm⟩
        refine ⟨_, rfl, x3, ?_⟩
        refine r_use fok53 (top_calls a c b' y3 hb4) rfl ?_
        rintro _ y4 ⟨rfl, x4⟩
        refine ⟨_, rfl, x4, ?_⟩
        exact fin _ _ _ _ (Kp.trans (Kp.trans (Kp.trans x1 x2) x3) x4) (block_below g7 (Kp.trans x3 x4)) (block_below g9 (Kp.trans (Kp.trans x2 x3) x4)) (block_below gm x4) (by have := Below.size x1; have := Below.size x2; have := Below.size x3; have := Below.size x4; omega)
  rintro _ _ _ z0 ⟨b7, b9, m, rfl, rfl, rfl, hz, g7, g9, gm, l7, l9, lm, n79, nm7, nm9⟩
  obtain ⟨va, vc, rfl, _⟩ := hr.len
  have hbz := block_below hby0 hz
  simp (disch := omega) only [r_ln, r_pick, r_pickT, r_pickF, r_condT, r_condF, r_gdTT, r_gdFF, r_gdTF, r_gdFT, r_gqTT, r_gqFF, r_gqTF, r_gqFT, r_not, r_lss, r_leq, r_gtr, r_geq, r_eql, r_neq, r_add, r_sub, r_min2, r_max2, r_min3, r_max3, r_fa, r_iaS, r_iaA, r_ex2a, r_ex2b, r_ex3a, r_ex3b, r_ex3c, r_nc, r_keepE, Nat.zero_add, Nat.add_zero, Nat.mul_one, Int.toNat_natCast, toNat_sub1, toNat_add1, decide_true, decide_false, Bool.not_true, Bool.not_false, if_true, if_false, Bool.false_eq_true, reduceCtorEq, hlen]
  refine ⟨fun t8 t27 wr => ∃ i : Nat, i ≤ a ∧ t27 = .int .i64 i ∧ t8 = .int .i64 (rankM a b' c h i) ∧ Kp y0 wr ∧ wr.heap[b7]? = some (.cells (counterV a b' c m).cells 77 (0, 0)) ∧ wr.heap[b9]? = some (.cells (intCells (lastM b' c h i)).toArray 80 (0, 0)) ∧ MemoAt wr m (knownF b'),
    fun _ t27 _ => a - (intOf t27).toNat, ⟨0, by omega, rfl, rfl, hz, g7, g9, gm⟩, ?_⟩
  rintro _ _ _ wr ⟨i, hi, rfl, rfl, hkr, g7, g9, gm⟩
  have hbr := block_below hby0 hkr
  have hsi := hsum i hi
  by_cases hlt : i < a
  case neg =>
    have hlt' : ¬ (i : Int) < (a : Int) := by omega
    have e : i = a := by omega
    subst e
    simp (disch := omega) only [r_ln, r_pick, r_pickT, r_pickF, r_condT, r_condF, r_gdTT, r_gdFF, r_gdTF, r_gdFT, r_gqTT, r_gqFF, r_gqTF, r_gqFT, r_not, r_lss, r_leq, r_gtr, r_geq, r_eql, r_neq, r_add, r_sub, r_min2, r_max2, r_min3, r_max3, r_fa, r_iaS, r_iaA, r_ex2a, r_ex2b, r_ex3a, r_ex3b, r_ex3c, r_nc, r_keepE, Nat.zero_add, Nat.add_zero, Nat.mul_one, Int.toNat_natCast, toNat_sub1, toNat_add1, decide_true, decide_false, Bool.not_true, Bool.not_false, if_true, if_false, Bool.false_eq_true, reduceCtorEq, hlt']
    exact ⟨by simp [he], Kp.trans hkw0 hkr⟩
  have hlt' : (i : Int) < (a : Int) := by omega
  have hrr := hr.below (Kp.trans hkw0 hkr)
  obtain ⟨gb, goff, _, rv, e1, hci, hrow⟩ := hrr.row (i := i) (by omega)
  cases e1
  simp (disch := omega) only [r_ln, r_pick, r_pickT, r_pickF, r_condT, r_condF, r_gdTT, r_gdFF, r_gdTF, r_gdFT, r_gqTT, r_gqFF, r_gqTF, r_gqFT, r_not, r_lss, r_leq, r_gtr, r_geq, r_eql, r_neq, r_add, r_sub, r_min2, r_max2, r_min3, r_max3, r_fa, r_iaS, r_iaA, r_ex2a, r_ex2b, r_ex3a, r_ex3b, r_ex3c, r_nc, r_keepE, Nat.zero_add, Nat.add_zero, Nat.mul_one, Int.toNat_natCast, toNat_sub1, toNat_add1, decide_true, decide_false, Bool.not_true, Bool.not_false, if_true, if_false, Bool.false_eq_true, reduceCtorEq, hlt', r_ld hci]
  refine r_use fok54 (rowed_calls rv (h.getD i []) wr hrow (by rw [hrl i hlt]; omega) (by rw [hrl i hlt]; omega)) rfl ?_
  rintro _ u1 ⟨rfl, hu1⟩
  refine ⟨_, rfl, ?_⟩
  have hown4 : (row4 (h.getD i [])).length = 4 := row4_length (by rw [hrl i hlt]; exact hb4)
  refine r_box fun b12 u2 e12 s12 g12 hu2 => ?_
  refine r_stAll (n := 4) (ty := 80) (by kernel_rfl) (by rw [rowV_size]; exact hown4) (rowV_one _) g12 rfl fun u3 hc3 hs3 g12' => ?_
  have hku3 : Kp wr u3 := Kp.of_chg (Kp.trans hu1 hu2) hc3 fun i e => by have := hu1.size; omega
  have hb12 : wr.heap.size ≤ b12 := by have := hu1.size; omega
  have hbu3 := block_below hbr hku3
  have g7u := block_below g7 hku3
  have g9u := block_below g9 hku3
  have gmu := gm.kp hku3
  have hl4i := hlast4 i hi
  simp (disch := omega) only [r_ln, r_pick, r_pickT, r_pickF, r_condT, r_condF, r_gdTT, r_gdFF, r_gdTF, r_gdFT, r_gqTT, r_gqFF, r_gqTF, r_gqFT, r_not, r_lss, r_leq, r_gtr, r_geq, r_eql, r_neq, r_add, r_sub, r_min2, r_max2, r_min3, r_max3, r_fa, r_iaS, r_iaA, r_ex2a, r_ex2b, r_ex3a, r_ex3b, r_ex3c, r_nc, r_keepE, Nat.zero_add, Nat.add_zero, Nat.mul_one, Int.toNat_natCast, toNat_sub1, toNat_add1, decide_true, decide_false, Bool.not_true, Bool.not_false, if_true, if_false, Bool.false_eq_true, reduceCtorEq, r_ldRow (n := 3) hbu3 rfl, r_ldRow (n := 4) g9u (by simp [intCells, hl4i]), agg_cells]
  refine r_use fok55 (below_calls a c b' (lastM b' c h i) u3 hb4 hl4i fun k => by have := hlastR i hi k; omega) rfl ?_
  rintro _ u4 ⟨v36, rfl, hu4, ho⟩
  refine ⟨_, rfl, ?_⟩
  have hfr := belowM_fine (B := b') (M := 4) (by decide) fun k => (hlastR i hi k).2
  have hcount := belowM_count (B := b') (ab := lastM b' c h i) hb4 fun k => (hlastR i hi k).2
  have hrstep : rankM a b' c h (i + 1) = rankM a b' c h i + rankRow b' (a - 1 - i) (lastM b' c h i) (row4 (h.getD i [])) := rfl
  have hrrb := rankRow_bound (own := row4 (h.getD i [])) hb4 (show a - 1 - i ≤ 4 by omega) fun k => (hlastR i hi k).2
  unfold rankRow at hrstep hrrb
  have hlnext : lastM b' c h (i + 1) = row4 (h.getD i []) := by simp [lastM]
  have h4 : ∀ r ∈ belowM b' (lastM b' c h i), r.length = 4 := fun r hr => (hfr r hr).1
  have hnn : ∀ q ∈ belowM b' (lastM b' c h i), 0 ≤ lessF b' (a - 1 - i) (row4 (h.getD i [])) q := fun q hq => (lessF_bound hb4 (by omega) fun k => ((hfr q hq).2 k).2).1
  generalize belowM b' (lastM b' c h i) = rows at *
  generalize row4 (h.getD i []) = own at *
  obtain ⟨ra, rc, rfl⟩ := owned_len ho
  simp (disch := omega) only [r_ln, r_pick, r_pickT, r_pickF, r_condT, r_condF, r_gdTT, r_gdFF, r_gdTF, r_gdFT, r_gqTT, r_gqFF, r_gqTF, r_gqFT, r_not, r_lss, r_leq, r_gtr, r_geq, r_eql, r_neq, r_add, r_sub, r_min2, r_max2, r_min3, r_max3, r_fa, r_iaS, r_iaA, r_ex2a, r_ex2b, r_ex3a, r_ex3b, r_ex3c, r_nc, r_keepE, Nat.zero_add, Nat.add_zero, Nat.mul_one, Int.toNat_natCast, toNat_sub1, toNat_add1, decide_true, decide_false, Bool.not_true, Bool.not_false, if_true, if_false, Bool.false_eq_true, reduceCtorEq]
  refine ⟨fun t8 t38 wq => ∃ j : Nat, j ≤ rows.length ∧ t38 = .int .i64 j ∧ t8 = .int .i64 (rankM a b' c h i + ((rows.take j).map (lessF b' (a - 1 - i) own)).sum) ∧ Chg (fun k => k = m) u4 wq ∧ MemoAt wq m (knownF b'),
    fun _ t38 _ => rows.length - (intOf t38).toNat, ⟨0, by omega, rfl, by simp, Chg.refl _ _, gmu.kp hu4⟩, ?_⟩
  rintro _ _ _ wq ⟨j, hj, rfl, rfl, hcq, gmq⟩
  have hku4 := Kp.trans hku3 hu4
  have hkyq : Kp y0 wq := Kp.of_chg (Kp.trans hkr hku4) hcq fun i e => by omega
  have g12u4 := block_below g12' hu4
  have n12 : b12 ≠ m := by have := gm.lt; omega
  have g12q := hcq.at g12u4 n12
  have g7q := hcq.at (block_below g7 hku4) (Ne.symm nm7)
  have g9q := hcq.at (block_below g9 hku4) (Ne.symm nm9)
  have hbq := block_below hby0 hkyq
  have hst := sum_take_le hnn j
  by_cases hjt : j < rows.length
  case neg =>
    have hjt' : ¬ (j : Int) < (rows.length : Int) := by omega
    have e : j = rows.length := by omega
    subst e
    rw [List.take_of_length_le (Nat.le_refl _)] at *
    simp (disch := omega) only [r_ln, r_pick, r_pickT, r_pickF, r_condT, r_condF, r_gdTT, r_gdFF, r_gdTF, r_gdFT, r_gqTT, r_gqFF, r_gqTF, r_gqFT, r_not, r_lss, r_leq, r_gtr, r_geq, r_eql, r_neq, r_add, r_sub, r_min2, r_max2, r_min3, r_max3, r_fa, r_iaS, r_iaA, r_ex2a, r_ex2b, r_ex3a, r_ex3b, r_ex3c, r_nc, r_keepE, Nat.zero_add, Nat.add_zero, Nat.mul_one, Int.toNat_natCast, toNat_sub1, toNat_add1, decide_true, decide_false, Bool.not_true, Bool.not_false, if_true, if_false, Bool.false_eq_true, reduceCtorEq, hjt', r_ldRow (n := 4) g12q (by rw [rowV_size]; exact hown4), agg_cells]
    refine r_stAll (n := 4) (ty := 80) (by kernel_rfl) (by rw [rowV_size]; exact hown4) (rowV_one _) g9q (by simp [intCells, hl4i]) fun q1 hcq1 hsq1 g9n => ?_
    refine ⟨⟨i + 1, by omega, by go_num, by rw [hrstep], Kp.of_chg hkyq hcq1 fun i e => by omega, hcq1.at g7q n79, ?_, gmq.chg hcq1 nm9⟩, by simp only [intOf]; omega⟩
    rw [hlnext]; exact g9n
  have hjt' : (j : Int) < (rows.length : Int) := by omega
  have hoq := owns_chg ho hcq fun k hk e => by have := owned_block ho hk; have := gmu.lt; omega
  obtain ⟨g, cap, cur, e, hgb, hg, hgs, hrw⟩ := rows4 hoq h4 hjt
  cases e
  have hmem : rows.getD j [] ∈ rows := by rw [getD_lt _ _ _ hjt]; exact List.getElem_mem hjt
  have hl4 := h4 _ hmem
  simp (disch := omega) only [r_ln, r_pick, r_pickT, r_pickF, r_condT, r_condF, r_gdTT, r_gdFF, r_gdTF, r_gdFT, r_gqTT, r_gqFF, r_gqTF, r_gqFT, r_not, r_lss, r_leq, r_gtr, r_geq, r_eql, r_neq, r_add, r_sub, r_min2, r_max2, r_min3, r_max3, r_fa, r_iaS, r_iaA, r_ex2a, r_ex2b, r_ex3a, r_ex3b, r_ex3c, r_nc, r_keepE, Nat.zero_add, Nat.add_zero, Nat.mul_one, Int.toNat_natCast, toNat_sub1, toNat_add1, decide_true, decide_false, Bool.not_true, Bool.not_false, if_true, if_false, Bool.false_eq_true, reduceCtorEq, hjt', r_ldAt (n := 4) hg hgs hrw]
  refine r_box fun b14 q1 e14 s14 g14 hq1 => ?_
  refine r_stAll (n := 4) (ty := 80) (v := .agg (intCells (rows.getD j [])).toArray) (by kernel_rfl) (by rw [rowV_size]; exact hl4) (rowV_one _) g14 rfl fun q2 hcq2 hsq2 g14' => ?_
  have hkq2 : Kp wq q2 := Kp.of_chg hq1 hcq2 fun i e => by omega
  refine r_drew fun q3 hq3 _ => ?_
  have hkq3 := Kp.trans hkq2 hq3
  have g14q := block_below g14' hq3
  have g12q3 := block_below g12q hkq3
  have g7q3 := block_below g7q hkq3
  have hbq3 := block_below hbq hkq3
  have gmq3 := gmq.kp hkq3
  rw [r_slA4, r_slA4]
  refine r_use fok56 (compare_calls _ _ (rows.getD j []) own q3 (rd_block g14q hl4) (rd_block g12q3 hown4)) rfl ?_
  rintro _ _ ⟨rfl, rfl⟩
  refine ⟨_, rfl, ?_⟩
  have hst1 := sum_take_le hnn (j + 1)
  rw [sum_take_succ hjt] at hst1
  have hnm := hnn _ hmem
  have hcq3 : Chg (fun k => k = m) u4 q3 := hcq.trans (Chg.of_kp hkq3)
  by_cases hc : cmpL (rows.getD j []) own < 0
  case pos =>
    have hle : lessF b' (a - 1 - i) own (rows.getD j []) = waysM b' (a - 1 - i) (rows.getD j []) := by simp only [lessF, if_pos hc]
    rw [hle] at hst1
    obtain ⟨c0, c1, c2⟩ := box3 hbq3
    have ei : (a : Int) - 1 - i = ((a - 1 - i : Nat) : Int) := by omega
    simp (disch := omega) only [r_ln, r_pick, r_pickT, r_pickF, r_condT, r_condF, r_gdTT, r_gdFF, r_gdTF, r_gdFT, r_gqTT, r_gqFF, r_gqTF, r_gqFT, r_not, r_lss, r_leq, r_gtr, r_geq, r_eql, r_neq, r_add, r_sub, r_min2, r_max2, r_min3, r_max3, r_fa, r_iaS, r_iaA, r_ex2a, r_ex2b, r_ex3a, r_ex3b, r_ex3c, r_nc, r_keepE, Nat.zero_add, Nat.add_zero, Nat.mul_one, Int.toNat_natCast, toNat_sub1, toNat_add1, decide_true, decide_false, Bool.not_true, Bool.not_false, if_true, if_false, Bool.false_eq_true, reduceCtorEq, hc, r_ldRow (n := 4) g7q3 rfl, r_ld c0, r_ldRow (n := 4) g14q (by rw [rowV_size]; exact hl4), agg_cells, ei, bd88 _ hl4]
    refine r_join1 (fun t8 w' => t8 = .int .i64 (rankM a b' c h i + ((rows.take (j + 1)).map (lessF b' (a - 1 - i) own)).sum) ∧ Chg (fun k => k = m) u4 w' ∧ MemoAt w' m (knownF b')) ?_ ?_
    · rintro _ w' ⟨rfl, hcw, hmw⟩
      exact ⟨⟨j + 1, by omega, by go_num, rfl, hcw, hmw⟩, by simp only [intOf]; omega⟩
    · intro k hkk
      refine r_use fok57 (ways_calls a c b' m hb4 (a - 1 - i) (rows.getD j []) q3 (by omega) hl4 (fun k => (hfr _ hmem).2 k) gmq3) rfl ?_
      rintro _ q4 ⟨rfl, hm4, hc4⟩
      refine ⟨_, rfl, ?_⟩
      simp (disch := omega) only [r_ln, r_pick, r_pickT, r_pickF, r_condT, r_condF, r_gdTT, r_gdFF, r_gdTF, r_gdFT, r_gqTT, r_gqFF, r_gqTF, r_gqFT, r_not, r_lss, r_leq, r_gtr, r_geq, r_eql, r_neq, r_add, r_sub, r_min2, r_max2, r_min3, r_max3, r_fa, r_iaS, r_iaA, r_ex2a, r_ex2b, r_ex3a, r_ex3b, r_ex3c, r_nc, r_keepE, Nat.zero_add, Nat.add_zero, Nat.mul_one, Int.toNat_natCast, toNat_sub1, toNat_add1, decide_true, decide_false, Bool.not_true, Bool.not_false, if_true, if_false, Bool.false_eq_true, reduceCtorEq]
      refine hkk _ _ ⟨?_, hcq3.trans hc4, hm4⟩
      rw [sum_take_succ hjt, hle, Int.add_assoc]
  · have hle : lessF b' (a - 1 - i) own (rows.getD j []) = 0 := by simp only [lessF, if_neg hc]
    rw [hle] at hst1
    simp (disch := omega) only [r_ln, r_pick, r_pickT, r_pickF, r_condT, r_condF, r_gdTT, r_gdFF, r_gdTF, r_gdFT, r_gqTT, r_gqFF, r_gqTF, r_gqFT, r_not, r_lss, r_leq, r_gtr, r_geq, r_eql, r_neq, r_add, r_sub, r_min2, r_max2, r_min3, r_max3, r_fa, r_iaS, r_iaA, r_ex2a, r_ex2b, r_ex3a, r_ex3b, r_ex3c, r_nc, r_keepE, Nat.zero_add, Nat.add_zero, Nat.mul_one, Int.toNat_natCast, toNat_sub1, toNat_add1, decide_true, decide_false, Bool.not_true, Bool.not_false, if_true, if_false, Bool.false_eq_true, reduceCtorEq, hc]
    refine r_join1 (fun t8 w' => t8 = .int .i64 (rankM a b' c h i + ((rows.take (j + 1)).map (lessF b' (a - 1 - i) own)).sum) ∧ Chg (fun k => k = m) u4 w' ∧ MemoAt w' m (knownF b')) ?_ ?_
    · rintro _ w' ⟨rfl, hcw, hmw⟩
      exact ⟨⟨j + 1, by omega, by go_num, rfl, hcw, hmw⟩, by simp only [intOf]; omega⟩
    · intro k hkk
      refine hkk _ _ ⟨?_, hcq3, gmq3⟩
      rw [sum_take_succ hjt, hle, Int.add_zero]

end Go.Proofs.Ytaephdjmpmbfpaa

/- Going through all heaps: a counter whose digits have bounds that depend on the digits before. Plain; no program. -/
namespace Go.Hp

/-- All ways to go on with n digits after pre; mx is the greatest next digit. -/
def enumO (mx : List Int → Int) : Nat → List Int → List (List Int)
  | 0, _ => [[]]
  | n + 1, pre => (List.range (mx pre + 1).toNat).flatMap fun (x : Nat) => (enumO mx n (pre ++ [(x : Int)])).map ((x : Int) :: ·)

/-- The next digits. -/
def nxtO (mx : List Int → Int) : List Int → List Int → Option (List Int)
  | _, [] => none
  | pre, x :: rest => match nxtO mx (pre ++ [x]) rest with
    | some r => some (x :: r)
    | none => if x < mx pre then some ((x + 1) :: List.replicate rest.length 0) else none

/-- Each element's next one is the one after it; the last one's is t. -/
def ChTo {α : Type} (nx : α → Option α) (L : List α) (t : Option α) : Prop := ∀ (k : Nat) (a : α), L[k]? = some a → nx a = if k + 1 = L.length then t else L[k + 1]?

theorem ChTo.append {α : Type} {nx : α → Option α} {L M : List α} (h1 : ChTo nx L M[0]?) (h2 : ChTo nx M none) : ChTo nx (L ++ M) none := by
  intro k a hk
  by_cases hl : k < L.length
  · rw [List.getElem?_append_left hl] at hk
    rw [h1 k a hk, List.length_append]
    by_cases he : k + 1 = L.length
    · rw [if_pos he]
      by_cases hm : M.length = 0
      · have : M = [] := List.length_eq_zero_iff.1 hm
        subst this
        simp [he]
      · rw [if_neg (by omega), List.getElem?_append_right (by omega), show k + 1 - L.length = 0 by omega]
    · rw [if_neg he, if_neg (by omega), List.getElem?_append_left (by omega)]
  · rw [List.getElem?_append_right (by omega)] at hk
    rw [h2 _ a hk, List.length_append]
    by_cases he : k - L.length + 1 = M.length
    · rw [if_pos he, if_pos (by omega)]
    · rw [if_neg he, if_neg (by omega), List.getElem?_append_right (by omega), show k + 1 - L.length = k - L.length + 1 by omega]

/-- All digits at most what they may be. -/
theorem enumO_good {mx : List Int → Int} : ∀ (n : Nat) (pre s : List Int), s ∈ enumO mx n pre → s.length = n ∧ ∀ q, q < n → 0 ≤ s.getD q 0 ∧ s.getD q 0 ≤ mx (pre ++ s.take q)
  | 0, pre, s, h => by simp [enumO] at h; subst h; exact ⟨rfl, fun q hq => by omega⟩
  | n + 1, pre, s, h => by
    simp only [enumO, List.mem_flatMap, List.mem_range, List.mem_map] at h
    obtain ⟨x, hx, r, hr, rfl⟩ := h
    obtain ⟨h1, h2⟩ := enumO_good n _ r hr
    refine ⟨by simp [h1], fun q hq => ?_⟩
    cases q with
    | zero => simp; omega
    | succ q =>
      have := h2 q (by omega)
      simpa using this

section
variable {mx : List Int → Int} (H : ∀ pre : List Int, (∀ x ∈ pre, 0 ≤ x) → 0 ≤ mx pre)
include H

theorem enumO_head : ∀ (n : Nat) (pre : List Int), (∀ x ∈ pre, 0 ≤ x) → (enumO mx n pre)[0]? = some (List.replicate n 0)
  | 0, pre, _ => rfl
  | n + 1, pre, hp => by
    have h0 := H pre hp
    have ih := enumO_head n (pre ++ [((0 : Nat) : Int)]) (fun x hx => by
      rcases List.mem_append.1 hx with h | h
      · exact hp x h
      · simp at h; omega)
    obtain ⟨m, hm⟩ : ∃ m, (mx pre + 1).toNat = m + 1 := ⟨(mx pre).toNat, by omega⟩
    simp only [enumO, hm, List.range_succ_eq_map, List.flatMap_cons]
    have hne : 0 < (enumO mx n (pre ++ [((0 : Nat) : Int)])).length := (List.getElem?_eq_some_iff.1 ih).1
    rw [List.getElem?_append_left (by simpa using hne), List.getElem?_map, ih]
    rfl

theorem enumO_chain : ∀ (n : Nat) (pre : List Int), (∀ x ∈ pre, 0 ≤ x) → ChTo (nxtO mx pre) (enumO mx n pre) none
  | 0, pre, _ => by
    intro k a hk
    cases k with
    | zero => simp [enumO] at hk; subst hk; rfl
    | succ k => simp [enumO] at hk
  | n + 1, pre, hp => by
    have hpx : ∀ x : Nat, ∀ y ∈ pre ++ [(x : Int)], 0 ≤ y := fun x y hy => by
      rcases List.mem_append.1 hy with h | h
      · exact hp y h
      · simp at h; omega
    have key : ∀ m x : Nat, x + m = (mx pre + 1).toNat → ChTo (nxtO mx pre) ((List.range' x m).flatMap fun (x : Nat) => (enumO mx n (pre ++ [(x : Int)])).map ((x : Int) :: ·)) none := by
      intro m
      induction m with
      | zero => intro x _ k a hk; simp at hk
      | succ m ih =>
        intro x hx
        rw [List.range'_succ, List.flatMap_cons]
        refine ChTo.append ?_ (ih (x + 1) (by omega))
        intro k a hk
        rw [List.getElem?_map] at hk
        obtain ⟨s, hs, rfl⟩ := Option.map_eq_some_iff.1 hk
        have hc := enumO_chain n _ (hpx x) k s hs
        have hsl := (enumO_good n _ s (List.mem_of_getElem? hs)).1
        simp only [nxtO, hc, List.length_map, List.getElem?_map]
        by_cases he : k + 1 = (enumO mx n (pre ++ [(x : Int)])).length
        · rw [if_pos he, if_pos he]
          dsimp only
          by_cases hlt : (x : Int) < mx pre
          · rw [if_pos hlt, hsl]
            obtain ⟨m', hm'⟩ : ∃ m', m = m' + 1 := ⟨m - 1, by omega⟩
            subst hm'
            have hh := enumO_head H n (pre ++ [((x + 1 : Nat) : Int)]) (hpx (x + 1))
            have hne : 0 < (enumO mx n (pre ++ [((x + 1 : Nat) : Int)])).length := (List.getElem?_eq_some_iff.1 hh).1
            rw [List.range'_succ, List.flatMap_cons, List.getElem?_append_left (by simpa using hne), List.getElem?_map, hh]
            rfl
          · rw [if_neg hlt]
            have : m = 0 := by omega
            subst this
            rfl
        · rw [if_neg he, if_neg he]
          have hlt : k + 1 < (enumO mx n (pre ++ [(x : Int)])).length := by
            have := (List.getElem?_eq_some_iff.1 hs).1
            omega
          rw [List.getElem?_eq_getElem hlt]
          rfl
    have := key (mx pre + 1).toNat 0 (by omega)
    rw [← List.range_eq_range'] at this
    exact this

end

/-- A chain is what its first element leads to. -/
theorem chain_iter {α : Type} {nx : α → Option α} {L : List α} (h : ChTo nx L none) (f : Nat → Option α) (h0 : f 0 = L[0]?) (hs : ∀ k, f (k + 1) = (f k).bind nx) : ∀ k, f k = L[k]?
  | 0 => h0
  | k + 1 => by
    rw [hs, chain_iter h f h0 hs k]
    cases hk : L[k]? with
    | none =>
      have := List.getElem?_eq_none_iff.1 hk
      rw [List.getElem?_eq_none (by omega)]; rfl
    | some a =>
      have := h k a hk
      have hlt := (List.getElem?_eq_some_iff.1 hk).1
      simp only [Option.bind_some, this]
      by_cases he : k + 1 = L.length
      · rw [if_pos he, List.getElem?_eq_none (by omega)]
      · rw [if_neg he]

/-- The greatest digit at place pre.length of a heap of rows of B numbers. -/
def mxF (B : Nat) (C : Int) (pre : List Int) : Int :=
  let m := if 0 < pre.length % B then min C (pre.getD (pre.length - 1) 0) else C
  if 0 < pre.length / B then min m (pre.getD (pre.length - B) 0) else m

theorem mxF_nonneg {B : Nat} {C : Int} (hC : 0 ≤ C) (pre : List Int) (h : ∀ x ∈ pre, 0 ≤ x) : 0 ≤ mxF B C pre := by
  have hg : ∀ k, 0 ≤ pre.getD k 0 := fun k => by
    by_cases hk : k < pre.length
    · rw [List.getD_eq_getElem?_getD, List.getElem?_eq_getElem hk]; exact h _ (List.getElem_mem hk)
    · rw [List.getD_eq_getElem?_getD, List.getElem?_eq_none (by omega)]; simp
  have g1 := hg (pre.length - 1)
  have g2 := hg (pre.length - B)
  unfold mxF
  dsimp only
  split <;> split <;> omega

end Go.Hp
