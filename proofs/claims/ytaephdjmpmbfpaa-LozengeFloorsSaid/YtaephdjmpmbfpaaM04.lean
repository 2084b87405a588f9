/- Texts of my own, merged by program: D1 Bel Sa. -/
import Derived.Test.YtaephdjmpmbfpaaM03
import Derived.Laws.IdiomCopy
import Derived.Test.YtaephdjmpmbfpaaM02
set_option linter.all false
/- Contracts: count, top, rowed, and how rows are compared. -/
namespace Go.Proofs.Ytaephdjmpmbfpaa
open Go.Lf Go.RowKit Go.Hp

theorem r_mm {w : World} {K : Value → World → Prop} (h : ∀ (m : Nat) (w' : World), m = w.heap.size → w'.heap.size = m + 1 → w'.heap[m]? = some (.map #[] 0) → Below w.heap.size w w' → K (.map (some m)) w') : mmW w K :=
  h _ _ rfl (by show (w.heap.push _).size = _; simp) (heap_alloc_new w _) (below_alloc _)

abbrev counterV (A B C : Int) (m : Nat) : Value := .agg #[.int .i64 A, .int .i64 B, .int .i64 C, .map (some m)]

theorem bd77 (A B C : Int) (m : Option Nat) (K : Value → Prop) : bdQ Try.prog 77 [(0, boxV A B C), (1, .map m)] K = K (.agg #[.int .i64 A, .int .i64 B, .int .i64 C, .map m]) := by kernel_rfl

set_option maxRecDepth 100000 in
theorem count_calls (A B C : Int) (w : World) : Calls Try.prog 52 #[boxV A B C] w fun e w' => ∃ m, e = .returned (counterV A B C m) ∧ Kp w w' ∧ w.heap.size ≤ m ∧ w'.heap[m]? = some (.map #[] 0) := by
  refine lift52 ?_
  unfold S52
  refine r_box fun b w1 hb1 hs1 hb hk => ?_
  refine r_box fun b2 w2 hb2 hs2 hbb2 hk2 => ?_
  simp (disch := omega) only [r_ln, r_pick, r_pickT, r_pickF, r_condT, r_condF, r_gdTT, r_gdFF, r_gdTF, r_gdFT, r_gqTT, r_gqFF, r_gqTF, r_gqFT, r_not, r_lss, r_leq, r_gtr, r_geq, r_eql, r_neq, r_add, r_sub, r_min2, r_max2, r_min3, r_max3, r_fa, r_iaS, r_iaA, r_ex2a, r_ex2b, r_ex3a, r_ex3b, r_ex3c, r_nc, r_keepE, Nat.zero_add, Nat.add_zero, Nat.mul_one, Int.toNat_natCast, toNat_sub1, toNat_add1, decide_true, decide_false, Bool.not_true, Bool.not_false, if_true, if_false, Bool.false_eq_true, reduceCtorEq, r_ldRow (n := 3) (block_below hb hk2) rfl]
  refine r_mm fun m w3 hm hs3 hm3 hk3 => ?_
  rw [agg_cells, bd77]
  refine r_stAll (n := 4) (by kernel_rfl) rfl (by intro u hu; simp [Value.cells] at hu; rcases hu with rfl | rfl | rfl | rfl <;> rfl) (block_below hbb2 hk3) rfl fun w4 hc4 hs4 hb4 => ?_
  simp (disch := omega) only [r_ln, r_pick, r_pickT, r_pickF, r_condT, r_condF, r_gdTT, r_gdFF, r_gdTF, r_gdFT, r_gqTT, r_gqFF, r_gqTF, r_gqFT, r_not, r_lss, r_leq, r_gtr, r_geq, r_eql, r_neq, r_add, r_sub, r_min2, r_max2, r_min3, r_max3, r_fa, r_iaS, r_iaA, r_ex2a, r_ex2b, r_ex3a, r_ex3b, r_ex3c, r_nc, r_keepE, Nat.zero_add, Nat.add_zero, Nat.mul_one, Int.toNat_natCast, toNat_sub1, toNat_add1, decide_true, decide_false, Bool.not_true, Bool.not_false, if_true, if_false, Bool.false_eq_true, reduceCtorEq, r_ldRow (n := 4) hb4 rfl]
  refine ⟨m, rfl, Kp.of_chg (Kp.trans (Kp.trans hk hk2) hk3) hc4 fun i hi => ?_, ?_, ?_⟩
  · subst hi; omega
  · omega
  · exact hc4.at hm3 (by omega)

/-- The row above the first one. -/
def topRow (B : Nat) (C : Int) : List Int := List.replicate B C ++ List.replicate (4 - B) 0
theorem topRow_length {B : Nat} {C : Int} (h : B ≤ 4) : (topRow B C).length = 4 := by simp [topRow]; omega

theorem topRow_set {B : Nat} {C : Int} (h : B < 4) : (topRow B C).set B C = topRow (B + 1) C := by
  match B, h with
  | 0, _ => rfl
  | 1, _ => rfl
  | 2, _ => rfl
  | 3, _ => rfl

set_option maxRecDepth 100000 in
theorem top_calls (A C : Int) (B : Nat) (w : World) (hB : B ≤ 4) : Calls Try.prog 53 #[boxV A B C] w fun e w' => e = .returned (rowV (topRow B C)) ∧ Kp w w' := by
  refine lift53 ?_
  unfold S53
  refine r_box fun b w1 hb1 hs1 hb hk => ?_
  refine r_box fun b2 w2 hb2 hs2 hbb2 hk2 => ?_
  refine r_box fun b3 w3 hb3 hs3 hbb3 hk3 => ?_
  have hbt := block_below hb (Kp.trans hk2 hk3)
  obtain ⟨c0, c1, c2⟩ := box3 hbt
  simp (disch := omega) only [r_ln, r_pick, r_pickT, r_pickF, r_condT, r_condF, r_gdTT, r_gdFF, r_gdTF, r_gdFT, r_gqTT, r_gqFF, r_gqTF, r_gqFT, r_not, r_lss, r_leq, r_gtr, r_geq, r_eql, r_neq, r_add, r_sub, r_min2, r_max2, r_min3, r_max3, r_fa, r_iaS, r_iaA, r_ex2a, r_ex2b, r_ex3a, r_ex3b, r_ex3c, r_nc, r_keepE, Nat.zero_add, Nat.add_zero, Nat.mul_one, Int.toNat_natCast, toNat_sub1, toNat_add1, decide_true, decide_false, Bool.not_true, Bool.not_false, if_true, if_false, Bool.false_eq_true, reduceCtorEq, r_ld c1]
  refine ⟨fun t7 wr => ∃ i : Nat, i ≤ B ∧ t7 = .int .i64 i ∧ Chg (fun k => k = b3) w3 wr ∧ wr.heap[b3]? = some (.cells (intCells (topRow i C)).toArray 80 (0, 0)), fun t7 _ => B - (intOf t7).toNat,
    ⟨0, by omega, rfl, Chg.refl _ _, hbb3⟩, ?_⟩
  rintro _ _ wr ⟨i, hi, rfl, hch, hrow⟩
  have hbr := hch.at hbt (by omega)
  obtain ⟨d0, d1, d2⟩ := box3 hbr
  by_cases hlt : i < B
  case neg =>
    have hlt' : ¬ (i : Int) < (B : Int) := by omega
    have hiB : i = B := by omega
    subst hiB
    simp (disch := omega) only [r_ln, r_pick, r_pickT, r_pickF, r_condT, r_condF, r_gdTT, r_gdFF, r_gdTF, r_gdFT, r_gqTT, r_gqFF, r_gqTF, r_gqFT, r_not, r_lss, r_leq, r_gtr, r_geq, r_eql, r_neq, r_add, r_sub, r_min2, r_max2, r_min3, r_max3, r_fa, r_iaS, r_iaA, r_ex2a, r_ex2b, r_ex3a, r_ex3b, r_ex3c, r_nc, r_keepE, Nat.zero_add, Nat.add_zero, Nat.mul_one, Int.toNat_natCast, toNat_sub1, toNat_add1, decide_true, decide_false, Bool.not_true, Bool.not_false, if_true, if_false, Bool.false_eq_true, reduceCtorEq, hlt', r_ldRow (n := 4) hrow (by simp [intCells, topRow_length hB])]
    refine r_stAll (n := 4) (cs := (Value.agg #[.int .i64 0, .int .i64 0, .int .i64 0, .int .i64 0]).cells) (by kernel_rfl) (by simp [Value.cells, intCells, topRow_length hB]) (rowV_one _) (hch.at (block_below hbb2 hk3) (by omega)) rfl fun w5 hc5 hs5 hb5 => ?_
    simp (disch := omega) only [r_ln, r_pick, r_pickT, r_pickF, r_condT, r_condF, r_gdTT, r_gdFF, r_gdTF, r_gdFT, r_gqTT, r_gqFF, r_gqTF, r_gqFT, r_not, r_lss, r_leq, r_gtr, r_geq, r_eql, r_neq, r_add, r_sub, r_min2, r_max2, r_min3, r_max3, r_fa, r_iaS, r_iaA, r_ex2a, r_ex2b, r_ex3a, r_ex3b, r_ex3c, r_nc, r_keepE, Nat.zero_add, Nat.add_zero, Nat.mul_one, Int.toNat_natCast, toNat_sub1, toNat_add1, decide_true, decide_false, Bool.not_true, Bool.not_false, if_true, if_false, Bool.false_eq_true, reduceCtorEq, r_ldRow (n := 4) hb5 (by simp [Value.cells, intCells, topRow_length hB])]
    refine ⟨rfl, Kp.of_chg (Kp.trans (Kp.trans hk hk2) hk3) ((hch.mono (S' := fun k => k = b3 ∨ k = b2) fun _ _ h => .inl h).trans (hc5.mono fun _ _ h => .inr h)) fun k hk' => ?_⟩
    rcases hk' with rfl | rfl <;> omega
  have hlt' : (i : Int) < (B : Int) := by omega
  simp (disch := omega) only [r_ln, r_pick, r_pickT, r_pickF, r_condT, r_condF, r_gdTT, r_gdFF, r_gdTF, r_gdFT, r_gqTT, r_gqFF, r_gqTF, r_gqFT, r_not, r_lss, r_leq, r_gtr, r_geq, r_eql, r_neq, r_add, r_sub, r_min2, r_max2, r_min3, r_max3, r_fa, r_iaS, r_iaA, r_ex2a, r_ex2b, r_ex3a, r_ex3b, r_ex3c, r_nc, r_keepE, Nat.zero_add, Nat.add_zero, Nat.mul_one, Int.toNat_natCast, toNat_sub1, toNat_add1, decide_true, decide_false, Bool.not_true, Bool.not_false, if_true, if_false, Bool.false_eq_true, reduceCtorEq, hlt', r_ld d2]
  rw [st3 (row_cell (j := i) hrow (by rw [topRow_length (by omega)]; omega)) (frozen_row hrow)]
  have hset := row_set (j := i) (x := C) hrow rfl
  rw [topRow_set (by omega)] at hset
  exact ⟨⟨i + 1, by omega, by go_num, hch.trans (Chg.setCell _ _ rfl), hset⟩, by simp only [intOf]; omega⟩

theorem setCells_at {b : Nat} {ty : TypeId} : ∀ (vs : List Value) (o : Nat) (w : World) (cs : Array Value), w.heap[b]? = some (.cells cs ty (0, 0)) → o + vs.length ≤ cs.size →
    Chg (fun k => k = b) w (w.setCells b o vs) ∧ (w.setCells b o vs).heap.size = w.heap.size ∧ (w.setCells b o vs).heap[b]? = some (.cells (cs.toList.take o ++ vs ++ cs.toList.drop (o + vs.length)).toArray ty (0, 0))
  | [], o, w, cs, hb, _ => ⟨Chg.refl _ _, rfl, by simpa [World.setCells] using hb⟩
  | v :: vs, o, w, cs, hb, hn => by
    simp only [List.length_cons] at hn
    have hlt : o < cs.size := by omega
    have hb' := setCell_block (o := o) (v := v) hb rfl
    obtain ⟨h1, h2, h3⟩ := setCells_at vs (o + 1) _ _ hb' (by simp; omega)
    refine ⟨(Chg.setCell (S := fun k => k = b) w v rfl).trans h1, h2.trans (setCell_size _ _ _), ?_⟩
    show (World.setCells _ b (o + 1) vs).heap[b]? = _
    rw [h3]
    congr 3
    have e1 : (cs.setIfInBounds o v).toList = cs.toList.set o v := by simp
    rw [e1]
    have hl : o < cs.toList.length := by simpa using hlt
    rw [List.take_succ_eq_append_getElem (by simpa using hl), List.getElem_set_self, List.take_set_of_le (Nat.le_refl _), List.drop_set_of_lt (by omega)]
    simp [Nat.add_assoc, Nat.add_comm 1]

set_option maxRecDepth 100000 in
/-- copy(d, s) at integers: all of s into the first cells of a block. -/
theorem r_copy {b n dCap : Nat} {ty : TypeId} {cs : Array Value} {src : Value} {l : List Int} {w : World} {K : Value → World → Prop} (hs : RdInts w src l) (h0 : 0 < l.length) (hle : l.length ≤ n) (hb : w.heap[b]? = some (.cells cs ty (0, 0))) (hn : n ≤ cs.size)
    (hk : ∀ v w', Chg (fun k => k = b) w w' → w'.heap.size = w.heap.size → w'.heap[b]? = some (.cells (intCells l ++ cs.toList.drop l.length).toArray ty (0, 0)) → K v w') : semW Try.prog (cpS [36, 36] 3 [.slice (some ⟨b, 0, none⟩) n dCap, src]) w K := by
  obtain ⟨a, cap, rfl, hl, hc⟩ := hs
  obtain ⟨sb, so, rfl, hcell⟩ := hc h0
  obtain ⟨i, z, i1, i2, i3, i4, i5⟩ := slt36.info
  have hmin : (intCells l).length = Nat.min l.length n := by rw [intCells_length]; show _ = min _ _; omega
  have hr := run_copy_cells (P := Try.prog) w 36 36 3 3 b 0 n dCap ⟨sb, so, none⟩ l.length cap (intCells l) slt36.und (by simp [i1, i3]) hmin
    (fun j v hj => by
      rw [r_addr]
      have hjl : j < l.length := by rw [← intCells_length]; exact (List.getElem?_eq_some_iff.1 hj).1
      rw [hcell j hjl]
      simp [intCells, hjl] at hj
      simp [hjl, hj])
    (fun j hj => by rw [intCells_length] at hj; rw [Nat.zero_add, cell_row hb]; simp; omega) (fun j _ => frozen_row hb) intCells_one
  obtain ⟨h1, h2, h3⟩ := setCells_at (intCells l) 0 w cs hb (by rw [intCells_length]; omega)
  refine semW_of_run (v := goInt (intCells l).length) (w' := w.setCells b 0 (intCells l)) (by simp [cpS, hr]) (hk _ _ h1 h2 ?_)
  rw [h3]
  simp [intCells_length]

/-- A list as a row of four. -/
def row4 (l : List Int) : List Int := l ++ List.replicate (4 - l.length) 0
theorem row4_length {l : List Int} (h : l.length ≤ 4) : (row4 l).length = 4 := by simp [row4]; omega

set_option maxRecDepth 100000 in
theorem rowed_calls (v : Value) (l : List Int) (w : World) (hr : RdInts w v l) (h0 : 0 < l.length) (h4 : l.length ≤ 4) : Calls Try.prog 54 #[v] w fun e w' => e = .returned (rowV (row4 l)) ∧ Kp w w' := by
  refine lift54 ?_
  unfold S54
  refine r_box fun b2 w2 hb2 hs2 hbb2 hk2 => ?_
  refine r_box fun b3 w3 hb3 hs3 hbb3 hk3 => ?_
  have e : ∀ K : Value → Prop, slA 4 1 (.pointer (some ⟨b3, 0, none⟩)) none none K = K (.slice (some ⟨b3, 0, none⟩) 4 4) := fun K => rfl
  rw [e]
  have hk' := Kp.trans hk2 hk3
  refine r_copy (hr.below hk') h0 h4 hbb3 (by simp [Value.cells]) fun _ w4 hc4 hs4 hb4 => ?_
  have hrow : (intCells l ++ List.drop l.length (Value.agg #[.int .i64 0, .int .i64 0, .int .i64 0, .int .i64 0]).cells.toList) = intCells (row4 l) := by
    unfold row4 intCells
    rw [List.map_append]
    congr 1
    match l, h4 with
    | [], _ => rfl
    | [_], _ => rfl
    | [_, _], _ => rfl
    | [_, _, _], _ => rfl
    | [_, _, _, _], _ => rfl
  rw [hrow] at hb4
  simp (disch := omega) only [r_ln, r_pick, r_pickT, r_pickF, r_condT, r_condF, r_gdTT, r_gdFF, r_gdTF, r_gdFT, r_gqTT, r_gqFF, r_gqTF, r_gqFT, r_not, r_lss, r_leq, r_gtr, r_geq, r_eql, r_neq, r_add, r_sub, r_min2, r_max2, r_min3, r_max3, r_fa, r_iaS, r_iaA, r_ex2a, r_ex2b, r_ex3a, r_ex3b, r_ex3c, r_nc, r_keepE, Nat.zero_add, Nat.add_zero, Nat.mul_one, Int.toNat_natCast, toNat_sub1, toNat_add1, decide_true, decide_false, Bool.not_true, Bool.not_false, if_true, if_false, Bool.false_eq_true, reduceCtorEq, r_ldRow (n := 4) hb4 (by simp [intCells, row4_length h4])]
  refine r_stAll (n := 4) (cs := (Value.agg #[.int .i64 0, .int .i64 0, .int .i64 0, .int .i64 0]).cells) (by kernel_rfl) (by simp [Value.cells, intCells, row4_length h4]) (rowV_one _) (hc4.at (block_below hbb2 hk3) (by omega)) rfl fun w5 hc5 hs5 hb5 => ?_
  simp (disch := omega) only [r_ln, r_pick, r_pickT, r_pickF, r_condT, r_condF, r_gdTT, r_gdFF, r_gdTF, r_gdFT, r_gqTT, r_gqFF, r_gqTF, r_gqFT, r_not, r_lss, r_leq, r_gtr, r_geq, r_eql, r_neq, r_add, r_sub, r_min2, r_max2, r_min3, r_max3, r_fa, r_iaS, r_iaA, r_ex2a, r_ex2b, r_ex3a, r_ex3b, r_ex3c, r_nc, r_keepE, Nat.zero_add, Nat.add_zero, Nat.mul_one, Int.toNat_natCast, toNat_sub1, toNat_add1, decide_true, decide_false, Bool.not_true, Bool.not_false, if_true, if_false, Bool.false_eq_true, reduceCtorEq, r_ldRow (n := 4) hb5 (by simp [Value.cells, intCells, row4_length h4])]
  refine ⟨rfl, Kp.of_chg hk' ((hc4.mono (S' := fun k => k = b3 ∨ k = b2) fun _ _ h => .inl h).trans (hc5.mono fun _ _ h => .inr h)) fun k hk'' => ?_⟩
  rcases hk'' with rfl | rfl <;> omega

end Go.Proofs.Ytaephdjmpmbfpaa

/- The rows that can be under a row, in ascending order. Plain; no program. -/
namespace Go.Hp

/-- The greatest number at column j under a row, the columns before it being chosen. -/
def mostR (ab r : List Int) (j : Nat) : Int := if 0 < j then min (ab.getD j 0) (r.getD (j - 1) 0) else ab.getD j 0

/-- All ways to choose n more columns, from column j on. -/
def bel (ab : List Int) : Nat → Nat → List Int → List (List Int)
  | 0, _, r => [r]
  | n + 1, j, r => (List.range (mostR ab r j + 1).toNat).flatMap fun (x : Nat) => bel ab n (j + 1) (r.set j (x : Int))

def belowM (B : Nat) (ab : List Int) : List (List Int) := bel ab B 0 [0, 0, 0, 0]

theorem bel_length {ab : List Int} : ∀ (n j : Nat) (r : List Int), ∀ q ∈ bel ab n j r, q.length = r.length
  | 0, j, r, q, hq => by simp [bel] at hq; rw [hq]
  | n + 1, j, r, q, hq => by
    simp only [bel, List.mem_flatMap] at hq
    obtain ⟨x, _, h⟩ := hq
    rw [bel_length n (j + 1) _ q h]
    simp

/-- The number of ways is bounded. -/
theorem bel_count {ab : List Int} {m : Nat} (h : ∀ j, ab.getD j 0 + 1 ≤ m) : ∀ (n j : Nat) (r : List Int), (bel ab n j r).length ≤ m ^ n
  | 0, j, r => by simp [bel]
  | n + 1, j, r => by
    simp only [bel, List.length_flatMap]
    have hm : (mostR ab r j + 1).toNat ≤ m := by
      have := h j
      unfold mostR
      split <;> omega
    have : ∀ (l : List Nat), (l.map fun (x : Nat) => (bel ab n (j + 1) (r.set j (x : Int))).length).sum ≤ l.length * m ^ n := by
      intro l
      induction l with
      | nil => simp
      | cons x l ih =>
        have := bel_count h n (j + 1) (r.set j x)
        simp only [List.map_cons, List.sum_cons, List.length_cons, Nat.add_mul, Nat.one_mul]
        omega
    refine Nat.le_trans (this _) ?_
    rw [List.length_range, Nat.pow_succ, Nat.mul_comm (m ^ n)]
    exact Nat.mul_le_mul_right _ hm

end Go.Hp

/- Lifted texts, printed by program (gen.py): what each function's code asks. The ties are by the kernel. -/
namespace Go.Proofs.Ytaephdjmpmbfpaa
open Go.Lf Go.RowKit

def S13 (t0 : Value) (w : World) (R : Ending → World → Prop) : Prop :=
  Loop2 (.int .i64 0) (.int .i64 0) w fun _ t3 t4 w next =>
    ln1 t0 fun t8 =>
    binQ Try.prog w .lss 3 false t4 t8 fun t9 =>
    condW t9 (
      Loop2 t3 (.int .i64 0) w fun _ t3_2 t5 w next_2 =>
        iaS 1 t0 t4 fun t15 =>
        ld1 w t15 fun t16 =>
        ln1 t16 fun t17 =>
        binQ Try.prog w .lss 3 false t5 t17 fun t18 =>
        condW t18 (
          iaS 1 t0 t4 fun t24 =>
          ld1 w t24 fun t25 =>
          iaS 1 t25 t5 fun t27 =>
          ld1 w t27 fun t28 =>
          binQ Try.prog w .add 3 false t3_2 t28 fun t29 =>
          binQ Try.prog w .add 3 true t5 (.int .i64 1) fun t20 =>
          next_2 t29 t20 w
        ) (
          binQ Try.prog w .add 3 true t4 (.int .i64 1) fun t11 =>
          next t3_2 t11 w
        )
    ) (
      R (.returned t3) w
    )

def A13 : Ann where
  live := fun
    | 0 => [3, 4]
    | 2 => [3, 5]
    | _ => []
  wr := fun
    | 0 => fun i => (Nat.ble 3 i && Nat.ble i 29)
    | 2 => fun i => Nat.beq i 3 || Nat.beq i 5 || (Nat.ble 12 i && Nat.ble i 29)
    | _ => fun _ => false
  sched := fun _ => .done

set_option maxRecDepth 100000 in
theorem ok13 : (codeOk Try.f13.ntmps A13 (Try.f13.body.getD .skip) 0 && Nat.ble 1 Try.f13.ntmps) = true := by kernel_rfl
set_option maxRecDepth 100000 in
theorem lift13 {t0 : Value} {w : World} {R : Ending → World → Prop} (h : S13 t0 w R) : Calls Try.prog 13 #[t0] w R :=
  calls_of_cw (fn := Try.f13) (c := Try.f13.body.getD .skip) A13 mixes Try.func13 (by kernel_rfl) ok13
    ((by kernel_rfl : (S13 t0 w R) = cw Try.prog A13 (Try.f13.body.getD .skip) 0 (bodyQ Try.prog Try.f13 R) (frOf #[t0]) w).mp h)

def S15 (t0 t1 : Value) (w : World) (R : Ending → World → Prop) : Prop :=
  boxW 25 t0 w fun t2 w =>
  ln1 t1 fun t8 =>
  fa1 t2 0 fun t9 =>
  ld1 w t9 fun t10 =>
  binQ Try.prog w .neq 3 false t8 t10 fun t11 =>
  condW t11 (
    R (.returned (.bool false)) w
  ) (
    Loop1 (.int .i64 0) w fun _ t5 w next =>
      fa1 t2 0 fun t13 =>
      ld1 w t13 fun t14 =>
      binQ Try.prog w .lss 3 false t5 t14 fun t15 =>
      condW t15 (
        Drew w fun w =>
        iaS 1 t1 t5 fun t20 =>
        ld1 w t20 fun t21 =>
        ln1 t21 fun t22 =>
        fa1 t2 1 fun t23 =>
        ld1 w t23 fun t24 =>
        binQ Try.prog w .neq 3 false t22 t24 fun t25 =>
        condW t25 (
          R (.returned (.bool false)) w
        ) (
          Loop1 (.int .i64 0) w fun _ t6 w next_2 =>
            fa1 t2 1 fun t27 =>
            ld1 w t27 fun t28 =>
            binQ Try.prog w .lss 3 false t6 t28 fun t29 =>
            condW t29 (
              Drew w fun w =>
              iaS 1 t1 t5 fun t34 =>
              ld1 w t34 fun t35 =>
              iaS 1 t35 t6 fun t37 =>
              ld1 w t37 fun t38 =>
              binQ Try.prog w .lss 3 true t38 (.int .i64 0) fun t39 =>
              gdQ t39 false (fun k => k t1) fun t41 =>
              gdQ t39 false (fun k => k t5) fun t42 =>
              gdQ t39 false (fun k => iaS 1 t41 t42 k) fun t43 =>
              gdQ t39 false (fun k => ld1 w t43 k) fun t44 =>
              gdQ t39 false (fun k => k t6) fun t45 =>
              gdQ t39 false (fun k => iaS 1 t44 t45 k) fun t46 =>
              gdQ t39 false (fun k => ld1 w t46 k) fun t47 =>
              gdQ t39 false (fun k => ldN 3 w t2 k) fun t48 =>
              gdQ t39 false (fun k => k t1) fun t49 =>
              gdQ t39 false (fun k => k t5) fun t50 =>
              gdQ t39 false (fun k => k t6) fun t51 =>
              gd t39 false (fun k => callW Try.prog (.func (.func 48) #[] #[]) [t48, t49, t50, t51] w k) w <| keepB w fun t52 w =>
              gdQ t39 false (fun k => binQ Try.prog w .gtr 3 false t47 t52 k) fun t53 =>
              pickQ t39 (.bool true) t53 fun t54 =>
              condW t54 (
                R (.returned (.bool false)) w
              ) (
                binQ Try.prog w .add 3 true t6 (.int .i64 1) fun t31 =>
                next_2 t31 w
              )
            ) (
              binQ Try.prog w .add 3 true t5 (.int .i64 1) fun t17 =>
              next t17 w
            )
        )
      ) (
        R (.returned (.bool true)) w
      )
  )

def A15 : Ann where
  live := fun
    | 0 => [5]
    | 2 => [6]
    | _ => []
  wr := fun
    | 0 => fun i => (Nat.ble 4 i && Nat.ble i 6) || (Nat.ble 12 i && Nat.ble i 54)
    | 2 => fun i => Nat.beq i 4 || Nat.beq i 6 || (Nat.ble 26 i && Nat.ble i 54)
    | _ => fun _ => false
  sched := fun
    | 6 => (.take 0 (.take 1 (.take 2 (.take 3 (.take 4 (.take 5 (.take 6 (.take 7 .done))))))))
    | 11 => (.take 0 (.take 1 (.take 2 (.take 3 (.take 4 (.take 5 (.take 6 (.take 7 (.take 8 (.take 9 (.take 10 (.take 11 (.take 12 (.take 13 (.take 14 (.take 15 (.take 16 (.take 17 (.take 18 (.take 19 (.eff 20 (.take 21 (.take 22 .done)))))))))))))))))))))))
    | _ => .done

set_option maxRecDepth 100000 in
theorem ok15 : (codeOk Try.f15.ntmps A15 (Try.f15.body.getD .skip) 0 && Nat.ble 2 Try.f15.ntmps) = true := by kernel_rfl
set_option maxRecDepth 100000 in
theorem lift15 {t0 t1 : Value} {w : World} {R : Ending → World → Prop} (h : S15 t0 t1 w R) : Calls Try.prog 15 #[t0, t1] w R :=
  calls_of_cw (fn := Try.f15) (c := Try.f15.body.getD .skip) A15 mixes Try.func15 (by kernel_rfl) ok15
    ((by kernel_rfl : (S15 t0 t1 w R) = cw Try.prog A15 (Try.f15.body.getD .skip) 0 (bodyQ Try.prog Try.f15 R) (frOf #[t0, t1]) w).mp h)

def S23 (t0 t1 : Value) (w : World) (R : Ending → World → Prop) : Prop :=
  boxW 25 t0 w fun t2 w =>
  fa1 t2 0 fun t9 =>
  ld1 w t9 fun t10 =>
  fa1 t2 1 fun t11 =>
  ld1 w t11 fun t12 =>
  binQ Try.prog w .mul 3 false t10 t12 fun t13 =>
  binQ Try.prog w .sub 3 true t13 (.int .i64 1) fun t14 =>
  Loop1 t14 w fun _ t5 w next =>
    binQ Try.prog w .geq 3 true t5 (.int .i64 0) fun t16 =>
    condW t16 (
      Drew w fun w =>
      fa1 t2 1 fun t20 =>
      ld1 w t20 fun t21 =>
      binQ Try.prog w .quo 3 false t5 t21 fun t22 =>
      fa1 t2 1 fun t24 =>
      ld1 w t24 fun t25 =>
      binQ Try.prog w .rem 3 false t5 t25 fun t26 =>
      Drew w fun w =>
      iaS 1 t1 t22 fun t29 =>
      ld1 w t29 fun t30 =>
      iaS 1 t30 t26 fun t32 =>
      ld1 w t32 fun t33 =>
      ldN 3 w t2 fun t34 =>
      callW Try.prog (.func (.func 48) #[] #[]) [t34, t1, t22, t26] w <| keepB w fun t38 w =>
      binQ Try.prog w .lss 3 false t33 t38 fun t39 =>
      condW t39 (
        iaS 1 t1 t22 fun t42 =>
        ld1 w t42 fun t43 =>
        iaS 1 t43 t26 fun t45 =>
        ld1 w t45 fun t46 =>
        binQ Try.prog w .add 3 true t46 (.int .i64 1) fun t47 =>
        iaS 1 t43 t26 fun t48 =>
        stW Try.prog 3 t48 t47 w fun w =>
        binQ Try.prog w .add 3 true t5 (.int .i64 1) fun t50 =>
        Loop1 t50 w fun _ t8 w next_2 =>
          fa1 t2 0 fun t52 =>
          ld1 w t52 fun t53 =>
          fa1 t2 1 fun t54 =>
          ld1 w t54 fun t55 =>
          binQ Try.prog w .mul 3 false t53 t55 fun t56 =>
          binQ Try.prog w .lss 3 false t8 t56 fun t57 =>
          condW t57 (
            Drew w fun w =>
            fa1 t2 1 fun t62 =>
            ld1 w t62 fun t63 =>
            binQ Try.prog w .quo 3 false t8 t63 fun t64 =>
            iaS 1 t1 t64 fun t65 =>
            ld1 w t65 fun t66 =>
            fa1 t2 1 fun t68 =>
            ld1 w t68 fun t69 =>
            binQ Try.prog w .rem 3 false t8 t69 fun t70 =>
            iaS 1 t66 t70 fun t71 =>
            stW Try.prog 3 t71 (.int .i64 0) w fun w =>
            binQ Try.prog w .add 3 true t8 (.int .i64 1) fun t59 =>
            next_2 t59 w
          ) (
            R (.returned (.bool true)) w
          )
      ) (
        binQ Try.prog w .sub 3 true t5 (.int .i64 1) fun t18 =>
        next t18 w
      )
    ) (
      R (.returned (.bool false)) w
    )

def A23 : Ann where
  live := fun
    | 0 => [5]
    | 2 => [8]
    | _ => []
  wr := fun
    | 0 => fun i => (Nat.ble 4 i && Nat.ble i 8) || (Nat.ble 15 i && Nat.ble i 71)
    | 2 => fun i => Nat.beq i 8 || (Nat.ble 51 i && Nat.ble i 71)
    | _ => fun _ => false
  sched := fun
    | 4 => (.take 0 (.take 1 (.take 2 (.take 3 (.take 4 (.take 5 (.take 6 (.take 7 (.take 8 (.take 9 .done))))))))))
    | 5 => (.take 0 (.take 1 (.take 2 (.take 3 (.take 4 (.take 5 (.take 6 (.take 7 (.take 8 (.take 9 (.take 10 (.eff 11 (.take 12 .done)))))))))))))
    | 10 => (.take 0 (.take 1 (.take 2 (.take 3 (.take 4 (.take 5 (.take 6 (.take 7 (.take 8 (.take 9 (.take 10 (.take 11 (.bar 12 .done)))))))))))))
    | _ => .done

set_option maxRecDepth 100000 in
theorem ok23 : (codeOk Try.f23.ntmps A23 (Try.f23.body.getD .skip) 0 && Nat.ble 2 Try.f23.ntmps) = true := by kernel_rfl
set_option maxRecDepth 100000 in
theorem lift23 {t0 t1 : Value} {w : World} {R : Ending → World → Prop} (h : S23 t0 t1 w R) : Calls Try.prog 23 #[t0, t1] w R :=
  calls_of_cw (fn := Try.f23) (c := Try.f23.body.getD .skip) A23 mixes Try.func23 (by kernel_rfl) ok23
    ((by kernel_rfl : (S23 t0 t1 w R) = cw Try.prog A23 (Try.f23.body.getD .skip) 0 (bodyQ Try.prog Try.f23 R) (frOf #[t0, t1]) w).mp h)

def S34 (t0 t1 : Value) (w : World) (R : Ending → World → Prop) : Prop :=
  boxW 25 t0 w fun t2 w =>
  ldN 3 w t2 fun t8 =>
  callW Try.prog (.func (.func 62) #[] #[]) [t8] w fun t9 w =>
  unQ .not t9 fun t10 =>
  condW t10 (
    R (.returned (.tuple #[(.slice none 0 0), (.int .i64 2)])) w
  ) (
    binQ Try.prog w .lss 3 true t1 (.int .i64 0) fun t12 =>
    condW t12 (
      R (.returned (.tuple #[(.slice none 0 0), (.int .i64 4)])) w
    ) (
      ldN 3 w t2 fun t13 =>
      callW Try.prog (.func (.func 66) #[] #[]) [t13] w fun t14 w =>
      Loop1 (.int .i64 0) w fun _ t7 w next =>
        binQ Try.prog w .lss 3 false t7 t1 fun t17 =>
        condW t17 (
          ldN 3 w t2 fun t20 =>
          callW Try.prog (.func (.func 23) #[] #[]) [t20, t14] w fun t22 w =>
          unQ .not t22 fun t23 =>
          condW t23 (
            R (.returned (.tuple #[(.slice none 0 0), (.int .i64 4)])) w
          ) (
            binQ Try.prog w .add 3 true t7 (.int .i64 1) fun t19 =>
            next t19 w
          )
        ) (
          R (.returned (.tuple #[t14, (.int .i64 0)])) w
        )
    )
  )

def A34 : Ann where
  live := fun
    | 0 => [7]
    | _ => []
  wr := fun
    | 0 => fun i => (Nat.ble 4 i && Nat.ble i 5) || Nat.beq i 7 || (Nat.ble 15 i && Nat.ble i 23)
    | _ => fun _ => false
  sched := fun _ => .done

set_option maxRecDepth 100000 in
theorem ok34 : (codeOk Try.f34.ntmps A34 (Try.f34.body.getD .skip) 0 && Nat.ble 2 Try.f34.ntmps) = true := by kernel_rfl
set_option maxRecDepth 100000 in
theorem lift34 {t0 t1 : Value} {w : World} {R : Ending → World → Prop} (h : S34 t0 t1 w R) : Calls Try.prog 34 #[t0, t1] w R :=
  calls_of_cw (fn := Try.f34) (c := Try.f34.body.getD .skip) A34 mixes Try.func34 (by kernel_rfl) ok34
    ((by kernel_rfl : (S34 t0 t1 w R) = cw Try.prog A34 (Try.f34.body.getD .skip) 0 (bodyQ Try.prog Try.f34 R) (frOf #[t0, t1]) w).mp h)

def S47 (t0 t1 : Value) (w : World) (R : Ending → World → Prop) : Prop :=
  boxW 25 t0 w fun t2 w =>
  ldN 3 w t2 fun t5 =>
  callW Try.prog (.func (.func 58) #[] #[]) [t5] w fun t6 w =>
  unQ .not t6 fun t7 =>
  gd t7 false (fun k => ldN 3 w t2 fun v => k v w) w fun t9 w =>
  gd t7 false (fun k => k t1 w) w fun t10 w =>
  gd t7 false (fun k => callW Try.prog (.func (.func 67) #[] #[]) [t9, t10] w k) w fun t11 w =>
  gd t7 false (fun k => unQ .not t11 fun v => k v w) w fun t12 w =>
  pickQ t7 (.bool true) t12 fun t13 =>
  condW t13 (
    R (.returned (.int .i64 2)) w
  ) (
    R (.returned (.int .i64 0)) w
  )

def A47 : Ann where
  live := fun _ => []
  wr := fun _ _ => false
  sched := fun _ => .done

set_option maxRecDepth 100000 in
theorem ok47 : (codeOk Try.f47.ntmps A47 (Try.f47.body.getD .skip) 0 && Nat.ble 2 Try.f47.ntmps) = true := by kernel_rfl
set_option maxRecDepth 100000 in
theorem lift47 {t0 t1 : Value} {w : World} {R : Ending → World → Prop} (h : S47 t0 t1 w R) : Calls Try.prog 47 #[t0, t1] w R :=
  calls_of_cw (fn := Try.f47) (c := Try.f47.body.getD .skip) A47 mixes Try.func47 (by kernel_rfl) ok47
    ((by kernel_rfl : (S47 t0 t1 w R) = cw Try.prog A47 (Try.f47.body.getD .skip) 0 (bodyQ Try.prog Try.f47 R) (frOf #[t0, t1]) w).mp h)

def S48 (t0 t1 t2 t3 : Value) (w : World) (R : Ending → World → Prop) : Prop :=
  boxW 25 t0 w fun t4 w =>
  fa1 t4 2 fun t10 =>
  ld1 w t10 fun t11 =>
  binQ Try.prog w .gtr 3 true t3 (.int .i64 0) fun t13 =>
  Join (fun (k_2 : Value → World → Prop) =>
    condW t13 (
      iaS 1 t1 t2 fun t17 =>
      ld1 w t17 fun t18 =>
      binQ Try.prog w .sub 3 true t3 (.int .i64 1) fun t20 =>
      iaS 1 t18 t20 fun t21 =>
      ld1 w t21 fun t22 =>
      mnQ false [t11, t22] fun t23 =>
      k_2 t23 w
    ) (
      k_2 t11 w
    )
  ) fun t9 w =>
  binQ Try.prog w .gtr 3 true t2 (.int .i64 0) fun t25_2 =>
  condW t25_2 (
    binQ Try.prog w .sub 3 true t2 (.int .i64 1) fun t29_2 =>
    iaS 1 t1 t29_2 fun t30_2 =>
    ld1 w t30_2 fun t31_2 =>
    iaS 1 t31_2 t3 fun t33_2 =>
    ld1 w t33_2 fun t34_2 =>
    mnQ false [t9, t34_2] fun t35_2 =>
    R (.returned t35_2) w
  ) (
    R (.returned t9) w
  )

def A48 : Ann where
  live := fun _ => []
  wr := fun _ _ => false
  sched := fun _ => .done

set_option maxRecDepth 100000 in
theorem ok48 : (codeOk Try.f48.ntmps A48 (Try.f48.body.getD .skip) 0 && Nat.ble 4 Try.f48.ntmps) = true := by kernel_rfl
set_option maxRecDepth 100000 in
theorem lift48 {t0 t1 t2 t3 : Value} {w : World} {R : Ending → World → Prop} (h : S48 t0 t1 t2 t3 w R) : Calls Try.prog 48 #[t0, t1, t2, t3] w R :=
  calls_of_cw (fn := Try.f48) (c := Try.f48.body.getD .skip) A48 mixes Try.func48 (by kernel_rfl) ok48
    ((by kernel_rfl : (S48 t0 t1 t2 t3 w R) = cw Try.prog A48 (Try.f48.body.getD .skip) 0 (bodyQ Try.prog Try.f48 R) (frOf #[t0, t1, t2, t3]) w).mp h)

def S58 (t0 : Value) (w : World) (R : Ending → World → Prop) : Prop :=
  boxW 25 t0 w fun t1 w =>
  fa1 t1 0 fun t3 =>
  ld1 w t3 fun t4 =>
  fa1 t1 1 fun t5 =>
  ld1 w t5 fun t6 =>
  fa1 t1 2 fun t7 =>
  ld1 w t7 fun t8 =>
  mnQ false [t4, t6, t8] fun t9 =>
  binQ Try.prog w .geq 3 true t9 (.int .i64 1) fun t10 =>
  gd t10 true (fun k => fa1 t1 0 fun v => k v w) w fun t12 w =>
  gd t10 true (fun k => ld1 w t12 fun v => k v w) w fun t13 w =>
  gd t10 true (fun k => fa1 t1 1 fun v => k v w) w fun t14 w =>
  gd t10 true (fun k => ld1 w t14 fun v => k v w) w fun t15 w =>
  gd t10 true (fun k => fa1 t1 2 fun v => k v w) w fun t16 w =>
  gd t10 true (fun k => ld1 w t16 fun v => k v w) w fun t17 w =>
  gd t10 true (fun k => mnQ true [t13, t15, t17] fun v => k v w) w fun t18 w =>
  gd t10 true (fun k => binQ Try.prog w .leq 3 true t18 (.int .i64 4) fun v => k v w) w fun t19 w =>
  pickQ t10 t19 (.bool false) fun t20 =>
  R (.returned t20) w

def A58 : Ann where
  live := fun _ => []
  wr := fun _ _ => false
  sched := fun _ => .done

set_option maxRecDepth 100000 in
theorem ok58 : (codeOk Try.f58.ntmps A58 (Try.f58.body.getD .skip) 0 && Nat.ble 1 Try.f58.ntmps) = true := by kernel_rfl
set_option maxRecDepth 100000 in
theorem lift58 {t0 : Value} {w : World} {R : Ending → World → Prop} (h : S58 t0 w R) : Calls Try.prog 58 #[t0] w R :=
  calls_of_cw (fn := Try.f58) (c := Try.f58.body.getD .skip) A58 mixes Try.func58 (by kernel_rfl) ok58
    ((by kernel_rfl : (S58 t0 w R) = cw Try.prog A58 (Try.f58.body.getD .skip) 0 (bodyQ Try.prog Try.f58 R) (frOf #[t0]) w).mp h)

def S62 (t0 : Value) (w : World) (R : Ending → World → Prop) : Prop :=
  boxW 25 t0 w fun t1 w =>
  fa1 t1 0 fun t3 =>
  ld1 w t3 fun t4 =>
  binQ Try.prog w .geq 3 true t4 (.int .i64 1) fun t5 =>
  gd t5 true (fun k => fa1 t1 0 fun v => k v w) w fun t7 w =>
  gd t5 true (fun k => ld1 w t7 fun v => k v w) w fun t8 w =>
  gd t5 true (fun k => binQ Try.prog w .leq 3 true t8 (.int .i64 4) fun v => k v w) w fun t9 w =>
  pickQ t5 t9 (.bool false) fun t10 =>
  gd t10 true (fun k => fa1 t1 1 fun v => k v w) w fun t12 w =>
  gd t10 true (fun k => ld1 w t12 fun v => k v w) w fun t13 w =>
  gd t10 true (fun k => binQ Try.prog w .geq 3 true t13 (.int .i64 1) fun v => k v w) w fun t14 w =>
  pickQ t10 t14 (.bool false) fun t15 =>
  gd t15 true (fun k => fa1 t1 1 fun v => k v w) w fun t17 w =>
  gd t15 true (fun k => ld1 w t17 fun v => k v w) w fun t18 w =>
  gd t15 true (fun k => binQ Try.prog w .leq 3 true t18 (.int .i64 4) fun v => k v w) w fun t19 w =>
  pickQ t15 t19 (.bool false) fun t20 =>
  gd t20 true (fun k => fa1 t1 2 fun v => k v w) w fun t22 w =>
  gd t20 true (fun k => ld1 w t22 fun v => k v w) w fun t23 w =>
  gd t20 true (fun k => binQ Try.prog w .geq 3 true t23 (.int .i64 1) fun v => k v w) w fun t24 w =>
  pickQ t20 t24 (.bool false) fun t25 =>
  gd t25 true (fun k => fa1 t1 2 fun v => k v w) w fun t27 w =>
  gd t25 true (fun k => ld1 w t27 fun v => k v w) w fun t28 w =>
  gd t25 true (fun k => binQ Try.prog w .leq 3 true t28 (.int .i64 4) fun v => k v w) w fun t29 w =>
  pickQ t25 t29 (.bool false) fun t30 =>
  R (.returned t30) w

def A62 : Ann where
  live := fun _ => []
  wr := fun _ _ => false
  sched := fun _ => .done

set_option maxRecDepth 100000 in
theorem ok62 : (codeOk Try.f62.ntmps A62 (Try.f62.body.getD .skip) 0 && Nat.ble 1 Try.f62.ntmps) = true := by kernel_rfl
set_option maxRecDepth 100000 in
theorem lift62 {t0 : Value} {w : World} {R : Ending → World → Prop} (h : S62 t0 w R) : Calls Try.prog 62 #[t0] w R :=
  calls_of_cw (fn := Try.f62) (c := Try.f62.body.getD .skip) A62 mixes Try.func62 (by kernel_rfl) ok62
    ((by kernel_rfl : (S62 t0 w R) = cw Try.prog A62 (Try.f62.body.getD .skip) 0 (bodyQ Try.prog Try.f62 R) (frOf #[t0]) w).mp h)

def S66 (t0 : Value) (w : World) (R : Ending → World → Prop) : Prop :=
  boxW 25 t0 w fun t1 w =>
  Loop2 (.slice none 0 0) (.int .i64 0) w fun _ t3 t4 w next =>
    fa1 t1 0 fun t6 =>
    ld1 w t6 fun t7 =>
    binQ Try.prog w .lss 3 false t4 t7 fun t8 =>
    condW t8 (
      fa1 t1 1 fun t12 =>
      ld1 w t12 fun t13 =>
      mkW Try.prog 36 t13 t13 w fun t14 w =>
      bsW Try.prog 26 1 [(0, t14)] w fun t15 w =>
      semW Try.prog (apS [26, 26] 26 [t3, t15]) w fun t16 w =>
      binQ Try.prog w .add 3 true t4 (.int .i64 1) fun t10 =>
      next t16 t10 w
    ) (
      R (.returned t3) w
    )

def A66 : Ann where
  live := fun
    | 0 => [3, 4]
    | _ => []
  wr := fun
    | 0 => fun i => (Nat.ble 3 i && Nat.ble i 16)
    | _ => fun _ => false
  sched := fun _ => .done

set_option maxRecDepth 100000 in
theorem ok66 : (codeOk Try.f66.ntmps A66 (Try.f66.body.getD .skip) 0 && Nat.ble 1 Try.f66.ntmps) = true := by kernel_rfl
set_option maxRecDepth 100000 in
theorem lift66 {t0 : Value} {w : World} {R : Ending → World → Prop} (h : S66 t0 w R) : Calls Try.prog 66 #[t0] w R :=
  calls_of_cw (fn := Try.f66) (c := Try.f66.body.getD .skip) A66 mixes Try.func66 (by kernel_rfl) ok66
    ((by kernel_rfl : (S66 t0 w R) = cw Try.prog A66 (Try.f66.body.getD .skip) 0 (bodyQ Try.prog Try.f66 R) (frOf #[t0]) w).mp h)

def S67 (t0 t1 : Value) (w : World) (R : Ending → World → Prop) : Prop :=
  boxW 25 t0 w fun t2 w =>
  ln1 t1 fun t10 =>
  fa1 t2 0 fun t11 =>
  ld1 w t11 fun t12 =>
  binQ Try.prog w .neq 3 false t10 t12 fun t13 =>
  condW t13 (
    R (.returned (.bool false)) w
  ) (
    ln1 t1 fun t15 =>
    Loop1 (.int .i64 0) w fun _ t16 w next =>
      binQ Try.prog w .lss 3 false t16 t15 fun t17 =>
      condW t17 (
        iaS 1 t1 t16 fun t19 =>
        ld1 w t19 fun t20 =>
        ln1 t20 fun t22 =>
        fa1 t2 1 fun t23 =>
        ld1 w t23 fun t24 =>
        binQ Try.prog w .neq 3 false t22 t24 fun t25 =>
        condW t25 (
          R (.returned (.bool false)) w
        ) (
          ln1 t20 fun t27 =>
          Loop1 (.int .i64 0) w fun _ t28 w next_2 =>
            binQ Try.prog w .lss 3 false t28 t27 fun t29 =>
            condW t29 (
              iaS 1 t20 t28 fun t31 =>
              ld1 w t31 fun t32 =>
              binQ Try.prog w .lss 3 true t32 (.int .i64 0) fun t34 =>
              gd t34 false (fun k => k t32 w) w fun t36 w =>
              gd t34 false (fun k => fa1 t2 2 fun v => k v w) w fun t37 w =>
              gd t34 false (fun k => ld1 w t37 fun v => k v w) w fun t38 w =>
              gd t34 false (fun k => binQ Try.prog w .gtr 3 false t36 t38 fun v => k v w) w fun t39 w =>
              pickQ t34 (.bool true) t39 fun t40 =>
              gd t40 false (fun k => k t28 w) w fun t42 w =>
              gd t40 false (fun k => binQ Try.prog w .gtr 3 true t42 (.int .i64 0) fun v => k v w) w fun t43 w =>
              gd t40 false (fun k => k t43 w) w fun t44 w =>
              gd t44 true (fun k => k t32 w) w fun t45 w =>
              gd t44 true (fun k => k t20 w) w fun t46 w =>
              gd t44 true (fun k => k t28 w) w fun t47 w =>
              gd t44 true (fun k => binQ Try.prog w .sub 3 true t47 (.int .i64 1) fun v => k v w) w fun t48 w =>
              gd t44 true (fun k => iaS 1 t46 t48 fun v => k v w) w fun t49 w =>
              gd t44 true (fun k => ld1 w t49 fun v => k v w) w fun t50 w =>
              gd t44 true (fun k => binQ Try.prog w .gtr 3 false t45 t50 fun v => k v w) w fun t51 w =>
              gd t40 false (fun k => pickQ t44 t51 (.bool false) fun v => k v w) w fun t52 w =>
              pickQ t40 (.bool true) t52 fun t53 =>
              gd t53 false (fun k => k t16 w) w fun t55 w =>
              gd t53 false (fun k => binQ Try.prog w .gtr 3 true t55 (.int .i64 0) fun v => k v w) w fun t56 w =>
              gd t53 false (fun k => k t56 w) w fun t57 w =>
              gd t57 true (fun k => k t32 w) w fun t58 w =>
              gd t57 true (fun k => k t1 w) w fun t59 w =>
              gd t57 true (fun k => k t16 w) w fun t60 w =>
              gd t57 true (fun k => binQ Try.prog w .sub 3 true t60 (.int .i64 1) fun v => k v w) w fun t61 w =>
              gd t57 true (fun k => iaS 1 t59 t61 fun v => k v w) w fun t62 w =>
              gd t57 true (fun k => ld1 w t62 fun v => k v w) w fun t63 w =>
              gd t57 true (fun k => k t28 w) w fun t64 w =>
              gd t57 true (fun k => iaS 1 t63 t64 fun v => k v w) w fun t65 w =>
              gd t57 true (fun k => ld1 w t65 fun v => k v w) w fun t66 w =>
              gd t57 true (fun k => binQ Try.prog w .gtr 3 false t58 t66 fun v => k v w) w fun t67 w =>
              gd t53 false (fun k => pickQ t57 t67 (.bool false) fun v => k v w) w fun t68 w =>
              pickQ t53 (.bool true) t68 fun t69 =>
              condW t69 (
                R (.returned (.bool false)) w
              ) (
                binQ Try.prog w .add 3 true t28 (.int .i64 1) fun t70 =>
                next_2 t70 w
              )
            ) (
              binQ Try.prog w .add 3 true t16 (.int .i64 1) fun t71 =>
              next t71 w
            )
        )
      ) (
        R (.returned (.bool true)) w
      )
  )

def A67 : Ann where
  live := fun
    | 0 => [16]
    | 2 => [28]
    | _ => []
  wr := fun
    | 0 => fun i => (Nat.ble 4 i && Nat.ble i 8) || (Nat.ble 16 i && Nat.ble i 71)
    | 2 => fun i => Nat.beq i 4 || (Nat.ble 7 i && Nat.ble i 8) || (Nat.ble 28 i && Nat.ble i 70)
    | _ => fun _ => false
  sched := fun _ => .done

set_option maxRecDepth 100000 in
theorem ok67 : (codeOk Try.f67.ntmps A67 (Try.f67.body.getD .skip) 0 && Nat.ble 2 Try.f67.ntmps) = true := by kernel_rfl
set_option maxRecDepth 100000 in
theorem lift67 {t0 t1 : Value} {w : World} {R : Ending → World → Prop} (h : S67 t0 t1 w R) : Calls Try.prog 67 #[t0, t1] w R :=
  calls_of_cw (fn := Try.f67) (c := Try.f67.body.getD .skip) A67 mixes Try.func67 (by kernel_rfl) ok67
    ((by kernel_rfl : (S67 t0 t1 w R) = cw Try.prog A67 (Try.f67.body.getD .skip) 0 (bodyQ Try.prog Try.f67 R) (frOf #[t0, t1]) w).mp h)

def S77 (t0 t1 : Value) (w : World) (R : Ending → World → Prop) : Prop :=
  ln1 t0 fun t9 =>
  Loop2 (.int .i64 0) (.int .i64 0) w fun _ t5 t10 w next =>
    binQ Try.prog w .lss 3 false t10 t9 fun t11 =>
    condW t11 (
      iaS 1 t0 t10 fun t12 =>
      ld1 w t12 fun t13 =>
      binQ Try.prog w .gtr 3 false t13 t1 fun t16 =>
      Join (fun (k_2 : Value → World → Prop) =>
        condW t16 (
          binQ Try.prog w .add 3 true t5 (.int .i64 1) fun t18 =>
          k_2 t18 w
        ) (
          k_2 t5 w
        )
      ) fun t5_2 w =>
      binQ Try.prog w .add 3 true t10 (.int .i64 1) fun t19_2 =>
      next t5_2 t19_2 w
    ) (
      R (.returned t5) w
    )

def A77 : Ann where
  live := fun
    | 0 => [5, 10]
    | _ => []
  wr := fun
    | 0 => fun i => Nat.beq i 5 || Nat.beq i 7 || (Nat.ble 10 i && Nat.ble i 19)
    | _ => fun _ => false
  sched := fun _ => .done

set_option maxRecDepth 100000 in
theorem ok77 : (codeOk Try.f77.ntmps A77 (Try.f77.body.getD .skip) 0 && Nat.ble 2 Try.f77.ntmps) = true := by kernel_rfl
set_option maxRecDepth 100000 in
theorem lift77 {t0 t1 : Value} {w : World} {R : Ending → World → Prop} (h : S77 t0 t1 w R) : Calls Try.prog 77 #[t0, t1] w R :=
  calls_of_cw (fn := Try.f77) (c := Try.f77.body.getD .skip) A77 mixes Try.func77 (by kernel_rfl) ok77
    ((by kernel_rfl : (S77 t0 t1 w R) = cw Try.prog A77 (Try.f77.body.getD .skip) 0 (bodyQ Try.prog Try.f77 R) (frOf #[t0, t1]) w).mp h)

theorem fok13 : fnOk Try.prog 13 = true := by kernel_rfl
theorem fok15 : fnOk Try.prog 15 = true := by kernel_rfl
theorem fok23 : fnOk Try.prog 23 = true := by kernel_rfl
theorem fok34 : fnOk Try.prog 34 = true := by kernel_rfl
theorem fok47 : fnOk Try.prog 47 = true := by kernel_rfl
theorem fok48 : fnOk Try.prog 48 = true := by kernel_rfl
theorem fok58 : fnOk Try.prog 58 = true := by kernel_rfl
theorem fok62 : fnOk Try.prog 62 = true := by kernel_rfl
theorem fok66 : fnOk Try.prog 66 = true := by kernel_rfl
theorem fok67 : fnOk Try.prog 67 = true := by kernel_rfl
theorem fok77 : fnOk Try.prog 77 = true := by kernel_rfl
end Go.Proofs.Ytaephdjmpmbfpaa
