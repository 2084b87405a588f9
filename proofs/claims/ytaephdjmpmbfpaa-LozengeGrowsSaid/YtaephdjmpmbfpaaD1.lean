/- Contracts: count, top, rowed, and how rows are compared. -/
import Derived.Test.YtaephdjmpmbfpaaMem
import Derived.Test.YtaephdjmpmbfpaaSb
import Derived.Laws.IdiomCopy
set_option linter.all false
namespace Go.Proofs.Ytaephdjmpmbfpaa
open Go.Lf Go.RowKit Go.Hp

theorem r_mm {w : World} {K : Value → World → Prop} (h : ∀ (m : Nat) (w' : World), m = w.heap.size → w'.heap.size = m + 1 → w'.heap[m]? = some (.map #[] 0) → Below w.heap.size w w' → K (.map (some m)) w') : mmW w K :=
  h _ _ rfl (by show (w.heap.push _).size = _; simp) (heap_alloc_new w _) (below_alloc _)

abbrev counterV (A B C : Int) (m : Nat) : Value := .agg #[.int .i64 A, .int .i64 B, .int .i64 C, .map (some m)]

theorem bd77 (A B C : Int) (m : Option Nat) (K : Value → Prop) : bdQ Try.prog 77 [(0, boxV A B C), (1, .map m)] K = K (.agg #[.int .i64 A, .int .i64 B, .int .i64 C, .map m]) := by kernel_rfl

set_option maxRecDepth 100000 in
theorem count_calls (A B C : Int) (w : World) : Calls Try.prog 52 #[boxV A B C] w fun e w' => ∃ m, e = .returned (counterV A B C m) ∧ Kp w w' ∧ w.heap.size ≤ m ∧ w'.heap[m]? = some (.map #[] 0) := by
  refine lift52 ?_
  unfold S52
  refine r_box fun b w1 hb1 hs1 hb hk => ?_
  refine r_box fun b2 w2 hb2 hs2 hbb2 hk2 => ?_
  simp (disch := omega) only [r_ln, r_pick, r_pickT, r_pickF, r_condT, r_condF, r_gdTT, r_gdFF, r_gdTF, r_gdFT, r_gqTT, r_gqFF, r_gqTF, r_gqFT, r_not, r_lss, r_leq, r_gtr, r_geq, r_eql, r_neq, r_add, r_sub, r_min2, r_max2, r_min3, r_max3, r_fa, r_iaS, r_iaA, r_ex2a, r_ex2b, r_ex3a, r_ex3b, r_ex3c, r_nc, r_keepE, Nat.zero_add, Nat.add_zero, Nat.mul_one, Int.toNat_natCast, toNat_sub1, toNat_add1, decide_true, decide_false, Bool.not_true, Bool.not_false, if_true, if_false, Bool.false_eq_true, reduceCtorEq, r_ldRow (n := 3) (block_below hb hk2) rfl]
  refine r_mm fun m w3 hm hs3 hm3 hk3 => ?_
  rw [agg_cells, bd77]
  refine r_stAll (n := 4) (by kernel_rfl) rfl (by intro u hu; simp [Value.cells] at hu; rcases hu with rfl | rfl | rfl | rfl <;> rfl) (block_below hbb2 hk3) rfl fun w4 hc4 hs4 hb4 => ?_
  simp (disch := omega) only [r_ln, r_pick, r_pickT, r_pickF, r_condT, r_condF, r_gdTT, r_gdFF, r_gdTF, r_gdFT, r_gqTT, r_gqFF, r_gqTF, r_gqFT, r_not, r_lss, r_leq, r_gtr, r_geq, r_eql, r_neq, r_add, r_sub, r_min2, r_max2, r_min3, r_max3, r_fa, r_iaS, r_iaA, r_ex2a, r_ex2b, r_ex3a, r_ex3b, r_ex3c, r_nc, r_keepE, Nat.zero_add, Nat.add_zero, Nat.mul_one, Int.toNat_natCast, toNat_sub1, toNat_add1, decide_true, decide_false, Bool.not_true, Bool.not_false, if_true, if_false, Bool.false_eq_true, reduceCtorEq, r_ldRow (n := 4) hb4 rfl]
  refine ⟨m, rfl, Kp.of_chg (Kp.trans (Kp.trans hk hk2) hk3) hc4 fun i hi => ?_, ?_, ?_⟩
  · subst hi; omega
  · omega
  · exact hc4.at hm3 (by omega)

/-- The row above the first one. -/
def topRow (B : Nat) (C : Int) : List Int := List.replicate B C ++ List.replicate (4 - B) 0
theorem topRow_length {B : Nat} {C : Int} (h : B ≤ 4) : (topRow B C).length = 4 := by simp [topRow]; omega

theorem topRow_set {B : Nat} {C : Int} (h : B < 4) : (topRow B C).set B C = topRow (B + 1) C := by
  match B, h with
  | 0, _ => rfl
  | 1, _ => rfl
  | 2, _ => rfl
  | 3, _ => rfl

set_option maxRecDepth 100000 in
theorem top_calls (A C : Int) (B : Nat) (w : World) (hB : B ≤ 4) : Calls Try.prog 53 #[boxV A B C] w fun e w' => e = .returned (rowV (topRow B C)) ∧ Kp w w' := by
  refine lift53 ?_
  unfold S53
  refine r_box fun b w1 hb1 hs1 hb hk => ?_
  refine r_box fun b2 w2 hb2 hs2 hbb2 hk2 => ?_
  refine r_box fun b3 w3 hb3 hs3 hbb3 hk3 => ?_
  have hbt := block_below hb (Kp.trans hk2 hk3)
  obtain ⟨c0, c1, c2⟩ := box3 hbt
  simp (disch := omega) only [r_ln, r_pick, r_pickT, r_pickF, r_condT, r_condF, r_gdTT, r_gdFF, r_gdTF, r_gdFT, r_gqTT, r_gqFF, r_gqTF, r_gqFT, r_not, r_lss, r_leq, r_gtr, r_geq, r_eql, r_neq, r_add, r_sub, r_min2, r_max2, r_min3, r_max3, r_fa, r_iaS, r_iaA, r_ex2a, r_ex2b, r_ex3a, r_ex3b, r_ex3c, r_nc, r_keepE, Nat.zero_add, Nat.add_zero, Nat.mul_one, Int.toNat_natCast, toNat_sub1, toNat_add1, decide_true, decide_false, Bool.not_true, Bool.not_false, if_true, if_false, Bool.false_eq_true, reduceCtorEq, r_ld c1]
  refine ⟨fun t7 wr => ∃ i : Nat, i ≤ B ∧ t7 = .int .i64 i ∧ Chg (fun k => k = b3) w3 wr ∧ wr.heap[b3]? = some (.cells (intCells (topRow i C)).toArray 80 (0, 0)), fun t7 _ => B - (intOf t7).toNat,
    ⟨0, by omega, rfl, Chg.refl _ _, hbb3⟩, ?_⟩
  rintro _ _ wr ⟨i, hi, rfl, hch, hrow⟩
  have hbr := hch.at hbt (by omega)
  obtain ⟨d0, d1, d2⟩ := box3 hbr
  by_cases hlt : i < B
  case neg =>
    have hlt' : ¬ (i : Int) < (B : Int) := by omega
    have hiB : i = B := by omega
    subst hiB
    simp (disch := omega) only [r_ln, r_pick, r_pickT, r_pickF, r_condT, r_condF, r_gdTT, r_gdFF, r_gdTF, r_gdFT, r_gqTT, r_gqFF, r_gqTF, r_gqFT, r_not, r_lss, r_leq, r_gtr, r_geq, r_eql, r_neq, r_add, r_sub, r_min2, r_max2, r_min3, r_max3, r_fa, r_iaS, r_iaA, r_ex2a, r_ex2b, r_ex3a, r_ex3b, r_ex3c, r_nc, r_keepE, Nat.zero_add, Nat.add_zero, Nat.mul_one, Int.toNat_natCast, toNat_sub1, toNat_add1, decide_true, decide_false, Bool.not_true, Bool.not_false, if_true, if_false, Bool.false_eq_true, reduceCtorEq, hlt', r_ldRow (n := 4) hrow (by simp [intCells, topRow_length hB])]
    refine r_stAll (n := 4) (cs := (Value.agg #[.int .i64 0, .int .i64 0, .int .i64 0, .int .i64 0]).cells) (by kernel_rfl) (by simp [Value.cells, intCells, topRow_length hB]) (rowV_one _) (hch.at (block_below hbb2 hk3) (by omega)) rfl fun w5 hc5 hs5 hb5 => ?_
    simp (disch := omega) only [r_ln, r_pick, r_pickT, r_pickF, r_condT, r_condF, r_gdTT, r_gdFF, r_gdTF, r_gdFT, r_gqTT, r_gqFF, r_gqTF, r_gqFT, r_not, r_lss, r_leq, r_gtr, r_geq, r_eql, r_neq, r_add, r_sub, r_min2, r_max2, r_min3, r_max3, r_fa, r_iaS, r_iaA, r_ex2a, r_ex2b, r_ex3a, r_ex3b, r_ex3c, r_nc, r_keepE, Nat.zero_add, Nat.add_zero, Nat.mul_one, Int.toNat_natCast, toNat_sub1, toNat_add1, decide_true, decide_false, Bool.not_true, Bool.not_false, if_true, if_false, Bool.false_eq_true, reduceCtorEq, r_ldRow (n := 4) hb5 (by simp [Value.cells, intCells, topRow_length hB])]
    refine ⟨rfl, Kp.of_chg (Kp.trans (Kp.trans hk hk2) hk3) ((hch.mono (S' := fun k => k = b3 ∨ k = b2) fun _ _ h => .inl h).trans (hc5.mono fun _ _ h => .inr h)) fun k hk' => ?_⟩
    rcases hk' with rfl | rfl <;> omega
  have hlt' : (i : Int) < (B : Int) := by omega
  simp (disch := omega) only [r_ln, r_pick, r_pickT, r_pickF, r_condT, r_condF, r_gdTT, r_gdFF, r_gdTF, r_gdFT, r_gqTT, r_gqFF, r_gqTF, r_gqFT, r_not, r_lss, r_leq, r_gtr, r_geq, r_eql, r_neq, r_add, r_sub, r_min2, r_max2, r_min3, r_max3, r_fa, r_iaS, r_iaA, r_ex2a, r_ex2b, r_ex3a, r_ex3b, r_ex3c, r_nc, r_keepE, Nat.zero_add, Nat.add_zero, Nat.mul_one, Int.toNat_natCast, toNat_sub1, toNat_add1, decide_true, decide_false, Bool.not_true, Bool.not_false, if_true, if_false, Bool.false_eq_true, reduceCtorEq, hlt', r_ld d2]
  rw [st3 (row_cell (j := i) hrow (by rw [topRow_length (by omega)]; omega)) (frozen_row hrow)]
  have hset := row_set (j := i) (x := C) hrow rfl
  rw [topRow_set (by omega)] at hset
  exact ⟨⟨i + 1, by omega, by go_num, hch.trans (Chg.setCell _ _ rfl), hset⟩, by simp only [intOf]; omega⟩

theorem setCells_at {b : Nat} {ty : TypeId} : ∀ (vs : List Value) (o : Nat) (w : World) (cs : Array Value), w.heap[b]? = some (.cells cs ty (0, 0)) → o + vs.length ≤ cs.size →
    Chg (fun k => k = b) w (w.setCells b o vs) ∧ (w.setCells b o vs).heap.size = w.heap.size ∧ (w.setCells b o vs).heap[b]? = some (.cells (cs.toList.take o ++ vs ++ cs.toList.drop (o + vs.length)).toArray ty (0, 0))
  | [], o, w, cs, hb, _ => ⟨Chg.refl _ _, rfl, by simpa [World.setCells] using hb⟩
  | v :: vs, o, w, cs, hb, hn => by
    simp only [List.length_cons] at hn
    have hlt : o < cs.size := by omega
    have hb' := setCell_block (o := o) (v := v) hb rfl
    obtain ⟨h1, h2, h3⟩ := setCells_at vs (o + 1) _ _ hb' (by simp; omega)
    refine ⟨(Chg.setCell (S := fun k => k = b) w v rfl).trans h1, h2.trans (setCell_size _ _ _), ?_⟩
    show (World.setCells _ b (o + 1) vs).heap[b]? = _
    rw [h3]
    congr 3
    have e1 : (cs.setIfInBounds o v).toList = cs.toList.set o v := by simp
    rw [e1]
    have hl : o < cs.toList.length := by simpa using hlt
    rw [List.take_succ_eq_append_getElem (by simpa using hl), List.getElem_set_self, List.take_set_of_le (Nat.le_refl _), List.drop_set_of_lt (by omega)]
    simp [Nat.add_assoc, Nat.add_comm 1]

set_option maxRecDepth 100000 in
/-- copy(d, s) at integers: all of s into the first cells of a block. -/
theorem r_copy {b n dCap : Nat} {ty : TypeId} {cs : Array Value} {src : Value} {l : List Int} {w : World} {K : Value → World → Prop} (hs : RdInts w src l) (h0 : 0 < l.length) (hle : l.length ≤ n) (hb : w.heap[b]? = some (.cells cs ty (0, 0))) (hn : n ≤ cs.size)
    (hk : ∀ v w', Chg (fun k => k = b) w w' → w'.heap.size = w.heap.size → w'.heap[b]? = some (.cells (intCells l ++ cs.toList.drop l.length).toArray ty (0, 0)) → K v w') : semW Try.prog (cpS [36, 36] 3 [.slice (some ⟨b, 0, none⟩) n dCap, src]) w K := by
  obtain ⟨a, cap, rfl, hl, hc⟩ := hs
  obtain ⟨sb, so, rfl, hcell⟩ := hc h0
  obtain ⟨i, z, i1, i2, i3, i4, i5⟩ := slt36.info
  have hmin : (intCells l).length = Nat.min l.length n := by rw [intCells_length]; show _ = min _ _; omega
  have hr := run_copy_cells (P := Try.prog) w 36 36 3 3 b 0 n dCap ⟨sb, so, none⟩ l.length cap (intCells l) slt36.und (by simp [i1, i3]) hmin
    (fun j v hj => by
      rw [r_addr]
      have hjl : j < l.length := by rw [← intCells_length]; exact (List.getElem?_eq_some_iff.1 hj).1
      rw [hcell j hjl]
      simp [intCells, hjl] at hj
      simp [hjl, hj])
    (fun j hj => by rw [intCells_length] at hj; rw [Nat.zero_add, cell_row hb]; simp; omega) (fun j _ => frozen_row hb) intCells_one
  obtain ⟨h1, h2, h3⟩ := setCells_at (intCells l) 0 w cs hb (by rw [intCells_length]; omega)
  refine semW_of_run (v := goInt (intCells l).length) (w' := w.setCells b 0 (intCells l)) (by simp [cpS, hr]) (hk _ _ h1 h2 ?_)
  rw [h3]
  simp [intCells_length]

/-- A list as a row of four. -/
def row4 (l : List Int) : List Int := l ++ List.replicate (4 - l.length) 0
theorem row4_length {l : List Int} (h : l.length ≤ 4) : (row4 l).length = 4 := by simp [row4]; omega

set_option maxRecDepth 100000 in
theorem rowed_calls (v : Value) (l : List Int) (w : World) (hr : RdInts w v l) (h0 : 0 < l.length) (h4 : l.length ≤ 4) : Calls Try.prog 54 #[v] w fun e w' => e = .returned (rowV (row4 l)) ∧ Kp w w' := by
  refine lift54 ?_
  unfold S54
  refine r_box fun b2 w2 hb2 hs2 hbb2 hk2 => ?_
  refine r_box fun b3 w3 hb3 hs3 hbb3 hk3 => ?_
  have e : ∀ K : Value → Prop, slA 4 1 (.pointer (some ⟨b3, 0, none⟩)) none none K = K (.slice (some ⟨b3, 0, none⟩) 4 4) := fun K => rfl
  rw [e]
  have hk' := Kp.trans hk2 hk3
  refine r_copy (hr.below hk') h0 h4 hbb3 (by simp [Value.cells]) fun _ w4 hc4 hs4 hb4 => ?_
  have hrow : (intCells l ++ List.drop l.length (Value.agg #[.int .i64 0, .int .i64 0, .int .i64 0, .int .i64 0]).cells.toList) = intCells (row4 l) := by
    unfold row4 intCells
    rw [List.map_append]
    congr 1
    match l, h4 with
    | [], _ => rfl
    | [_], _ => rfl
    | [_, _], _ => rfl
    | [_, _, _], _ => rfl
    | [_, _, _, _], _ => rfl
  rw [hrow] at hb4
  simp (disch := omega) only [r_ln, r_pick, r_pickT, r_pickF, r_condT, r_condF, r_gdTT, r_gdFF, r_gdTF, r_gdFT, r_gqTT, r_gqFF, r_gqTF, r_gqFT, r_not, r_lss, r_leq, r_gtr, r_geq, r_eql, r_neq, r_add, r_sub, r_min2, r_max2, r_min3, r_max3, r_fa, r_iaS, r_iaA, r_ex2a, r_ex2b, r_ex3a, r_ex3b, r_ex3c, r_nc, r_keepE, Nat.zero_add, Nat.add_zero, Nat.mul_one, Int.toNat_natCast, toNat_sub1, toNat_add1, decide_true, decide_false, Bool.not_true, Bool.not_false, if_true, if_false, Bool.false_eq_true, reduceCtorEq, r_ldRow (n := 4) hb4 (by simp [intCells, row4_length h4])]
  refine r_stAll (n := 4) (cs := (Value.agg #[.int .i64 0, .int .i64 0, .int .i64 0, .int .i64 0]).cells) (by kernel_rfl) (by simp [Value.cells, intCells, row4_length h4]) (rowV_one _) (hc4.at (block_below hbb2 hk3) (by omega)) rfl fun w5 hc5 hs5 hb5 => ?_
  simp (disch := omega) only [r_ln, r_pick, r_pickT, r_pickF, r_condT, r_condF, r_gdTT, r_gdFF, r_gdTF, r_gdFT, r_gqTT, r_gqFF, r_gqTF, r_gqFT, r_not, r_lss, r_leq, r_gtr, r_geq, r_eql, r_neq, r_add, r_sub, r_min2, r_max2, r_min3, r_max3, r_fa, r_iaS, r_iaA, r_ex2a, r_ex2b, r_ex3a, r_ex3b, r_ex3c, r_nc, r_keepE, Nat.zero_add, Nat.add_zero, Nat.mul_one, Int.toNat_natCast, toNat_sub1, toNat_add1, decide_true, decide_false, Bool.not_true, Bool.not_false, if_true, if_false, Bool.false_eq_true, reduceCtorEq, r_ldRow (n := 4) hb5 (by simp [Value.cells, intCells, row4_length h4])]
  refine ⟨rfl, Kp.of_chg hk' ((hc4.mono (S' := fun k => k = b3 ∨ k = b2) fun _ _ h => .inl h).trans (hc5.mono fun _ _ h => .inr h)) fun k hk'' => ?_⟩
  rcases hk'' with rfl | rfl <;> omega

end Go.Proofs.Ytaephdjmpmbfpaa
