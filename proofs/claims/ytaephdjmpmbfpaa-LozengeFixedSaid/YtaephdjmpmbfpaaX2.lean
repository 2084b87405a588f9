/- Contracts: each, Fixed of program and specification; LozengeFixed. -/
import Derived.Test.YtaephdjmpmbfpaaX1
import Derived.Test.YtaephdjmpmbfpaaLift6
set_option linter.all false
namespace Go.Proofs.Ytaephdjmpmbfpaa
open Go.Lf Go.RowKit Go.Hp

/-- What stands in memory while all heaps are gone through. -/
structure ES (A B C : Nat) (how : Int) (bb bv brs bat bb2 bh bn g : Nat) (L : List (List Int)) (c : Int) (w : World) : Prop where
  box : w.heap[bb]? = some (.cells (boxV A B C).cells 25 (0, 0))
  vis : w.heap[bv]? = some (.cells #[.func (.func 74) #[] #[ptrV bb2, ptrV bh, ptrV bn]] 97 (0, 0))
  rowsv : w.heap[brs]? = some (.cells #[.slice (some ⟨g, 0, none⟩) A A] 83 (0, 0))
  at_ : w.heap[bat]? = some (.cells #[.func (.func 90) #[] #[ptrV bb, ptrV bv, ptrV brs, ptrV bat]] 107 (0, 0))
  box2 : w.heap[bb2]? = some (.cells (boxV A B C).cells 25 (0, 0))
  how_ : w.heap[bh]? = some (.cells #[.int .i64 how] 3 (0, 0))
  cnt : w.heap[bn]? = some (.cells #[.int .i64 c] 3 (0, 0))
  pad : Pad A L
  rows : w.heap[g]? = some (.cells (L.flatMap intCells).toArray 80 (0, 0))

/-- The blocks that turn are none of the others. -/
def ENo (bb bv brs bat bb2 bh bn g : Nat) : Prop := (bb ≠ bn ∧ bv ≠ bn ∧ brs ≠ bn ∧ bat ≠ bn ∧ bb2 ≠ bn ∧ bh ≠ bn) ∧ (bb ≠ g ∧ bv ≠ g ∧ brs ≠ g ∧ bat ≠ g ∧ bb2 ≠ g ∧ bh ≠ g) ∧ bn ≠ g

theorem ES.kp {A B C : Nat} {how : Int} {bb bv brs bat bb2 bh bn g : Nat} {L : List (List Int)} {c : Int} {w w' : World} (s : ES A B C how bb bv brs bat bb2 bh bn g L c w) (k : Kp w w') : ES A B C how bb bv brs bat bb2 bh bn g L c w' :=
  ⟨block_below s.box k, block_below s.vis k, block_below s.rowsv k, block_below s.at_ k, block_below s.box2 k, block_below s.how_ k, block_below s.cnt k, s.pad, block_below s.rows k⟩

theorem ES.n {A B C : Nat} {how : Int} {bb bv brs bat bb2 bh bn g : Nat} {L : List (List Int)} {c c' : Int} {w w' : World} (s : ES A B C how bb bv brs bat bb2 bh bn g L c w) (no : ENo bb bv brs bat bb2 bh bn g) (hc : Chg (fun k => k = bn) w w') (h : w'.heap[bn]? = some (.cells #[.int .i64 c'] 3 (0, 0))) : ES A B C how bb bv brs bat bb2 bh bn g L c' w' :=
  let ⟨⟨a1, a2, a3, a4, a5, a6⟩, _, a7⟩ := no
  ⟨hc.at s.box a1, hc.at s.vis a2, hc.at s.rowsv a3, hc.at s.at_ a4, hc.at s.box2 a5, hc.at s.how_ a6, h, s.pad, hc.at s.rows (Ne.symm a7)⟩

theorem ES.g {A B C : Nat} {how : Int} {bb bv brs bat bb2 bh bn g : Nat} {L L' : List (List Int)} {c : Int} {w w' : World} (s : ES A B C how bb bv brs bat bb2 bh bn g L c w) (no : ENo bb bv brs bat bb2 bh bn g) (hc : Chg (fun k => k = g) w w') (hp : Pad A L') (h : w'.heap[g]? = some (.cells (L'.flatMap intCells).toArray 80 (0, 0))) : ES A B C how bb bv brs bat bb2 bh bn g L' c w' :=
  let ⟨_, ⟨a1, a2, a3, a4, a5, a6⟩, a7⟩ := no
  ⟨hc.at s.box a1, hc.at s.vis a2, hc.at s.rowsv a3, hc.at s.at_ a4, hc.at s.box2 a5, hc.at s.how_ a6, hc.at s.cnt a7, hp, h⟩

set_option maxRecDepth 100000 in
theorem visit_calls {A B C : Nat} {how : Int} {bb bv brs bat bb2 bh bn g : Nat} {L : List (List Int)} {c : Int} {w : World} (s : ES A B C how bb bv brs bat bb2 bh bn g L c w) (no : ENo bb bv brs bat bb2 bh bn g) (hA : 1 ≤ A ∧ A ≤ 4) (hB : 1 ≤ B ∧ B ≤ 4) (hC : 1 ≤ C ∧ C ≤ 4) (hok : fixOk A B C how = true) (h0 : 0 ≤ c) (h1 : c ≤ 1000000000000000) :
    Calls Try.prog 74 #[.slice (some ⟨g, 0, none⟩) A A, ptrV bb2, ptrV bh, ptrV bn] w fun e w' => e = .returned (.tuple #[]) ∧ ES A B C how bb bv brs bat bb2 bh bn g L (c + if fixP A B C how L then 1 else 0) w' ∧ Chg (fun k => k = bn) w w' := by
  refine lift74 ?_
  unfold S74
  refine box_slice fun b4 w1 e4 s4 g4 k4 => ?_
  have s1 := s.kp k4
  have c4 : w1.cell? ⟨b4, 0, none⟩ = some (.slice (some ⟨g, 0, none⟩) A A) := by rw [cell_row g4]; rfl
  simp (disch := omega) only [r_ln, r_pick, r_pickT, r_pickF, r_condT, r_condF, r_gdTT, r_gdFF, r_gdTF, r_gdFT, r_gqTT, r_gqFF, r_gqTF, r_gqFT, r_not, r_lss, r_leq, r_gtr, r_geq, r_eql, r_neq, r_add, r_sub, r_min2, r_max2, r_min3, r_max3, r_fa, r_iaS, r_iaA, r_ex2a, r_ex2b, r_ex3a, r_ex3b, r_ex3c, r_nc, r_keepE, Nat.zero_add, Nat.add_zero, Nat.mul_one, Int.toNat_natCast, toNat_sub1, toNat_add1, decide_true, decide_false, Bool.not_true, Bool.not_false, if_true, if_false, Bool.false_eq_true, reduceCtorEq, r_ldRow (n := 3) s1.box2 rfl, r_ld c4]
  refine r_use fok75 (fixed_calls s.pad hA hB hC hok bh bb2 b4 g w1 s1.how_ s1.box2 g4 s1.rows) rfl ?_
  rintro _ w2 ⟨rfl, k2⟩
  refine ⟨_, rfl, ?_⟩
  have s2 := s1.kp k2
  have k02 := Kp.trans k4 k2
  by_cases hf : fixP A B C how L
  · have cn : w2.cell? ⟨bn, 0, none⟩ = some (.int .i64 c) := by rw [cell_row s2.cnt]; rfl
    simp (disch := omega) only [r_ln, r_pick, r_pickT, r_pickF, r_condT, r_condF, r_gdTT, r_gdFF, r_gdTF, r_gdFT, r_gqTT, r_gqFF, r_gqTF, r_gqFT, r_not, r_lss, r_leq, r_gtr, r_geq, r_eql, r_neq, r_add, r_sub, r_min2, r_max2, r_min3, r_max3, r_fa, r_iaS, r_iaA, r_ex2a, r_ex2b, r_ex3a, r_ex3b, r_ex3c, r_nc, r_keepE, Nat.zero_add, Nat.add_zero, Nat.mul_one, Int.toNat_natCast, toNat_sub1, toNat_add1, decide_true, decide_false, Bool.not_true, Bool.not_false, if_true, if_false, Bool.false_eq_true, reduceCtorEq, hf, r_ld cn]
    rw [st3 cn (frozen_row s2.cnt)]
    have hset := setCell_block (o := 0) (v := .int .i64 (c + 1)) s2.cnt rfl
    have hc : Chg (fun k => k = bn) w2 (w2.setCell ⟨bn, 0, none⟩ (.int .i64 (c + 1))) := Chg.setCell _ _ rfl
    exact ⟨trivial, s2.n no hc hset, (Chg.of_kp k02).trans hc⟩
  · simp (disch := omega) only [r_ln, r_pick, r_pickT, r_pickF, r_condT, r_condF, r_gdTT, r_gdFF, r_gdTF, r_gdFT, r_gqTT, r_gqFF, r_gqTF, r_gqFT, r_not, r_lss, r_leq, r_gtr, r_geq, r_eql, r_neq, r_add, r_sub, r_min2, r_max2, r_min3, r_max3, r_fa, r_iaS, r_iaA, r_ex2a, r_ex2b, r_ex3a, r_ex3b, r_ex3c, r_nc, r_keepE, Nat.zero_add, Nat.add_zero, Nat.mul_one, Int.toNat_natCast, toNat_sub1, toNat_add1, decide_true, decide_false, Bool.not_true, Bool.not_false, if_true, if_false, Bool.false_eq_true, reduceCtorEq, hf]
    exact ⟨trivial, by simpa using s2, Chg.of_kp k02⟩

/-- How many of the heaps that go on from P stay as they are. -/
def fixC (A B C : Nat) (how : Int) (P : List (List Int)) (T : List (List (List Int))) : Int := (T.map fun t => if chM A B C (P ++ t) how = P ++ t then (1 : Int) else 0).sum

theorem fixC_bound (A B C : Nat) (how : Int) (P : List (List Int)) : ∀ T, 0 ≤ fixC A B C how P T ∧ fixC A B C how P T ≤ T.length
  | [] => by simp [fixC]
  | t :: T => by
    have := fixC_bound A B C how P T
    unfold fixC at this ⊢
    simp only [List.map_cons, List.sum_cons, List.length_cons]
    split <;> omega
theorem fixC_append (A B C : Nat) (how : Int) (P : List (List Int)) (T U : List (List (List Int))) : fixC A B C how P (T ++ U) = fixC A B C how P T + fixC A B C how P U := by simp [fixC]
theorem fixC_cons (A B C : Nat) (how : Int) (P : List (List Int)) (r : List Int) (T : List (List (List Int))) : fixC A B C how P (T.map (r :: ·)) = fixC A B C how (P ++ [r]) T := by
  unfold fixC
  rw [List.map_map]
  congr 1
  refine List.map_congr_left fun t _ => ?_
  simp [Function.comp_def]

theorem take_set_succ {L : List (List Int)} {i : Nat} {r : List Int} (hi : i < L.length) (B : Nat) : ((L.set i r).take (i + 1)).map (·.take B) = (L.take i).map (·.take B) ++ [r.take B] := by
  rw [List.take_succ_eq_append_getElem (by simpa using hi), List.take_set_of_le (Nat.le_refl _), List.getElem_set_self]
  simp

set_option maxRecDepth 100000 in
theorem ateach_calls {A B C : Nat} {how : Int} {bb bv brs bat bb2 bh bn g : Nat} (no : ENo bb bv brs bat bb2 bh bn g) (hA : 1 ≤ A ∧ A ≤ 4) (hB : 1 ≤ B ∧ B ≤ 4) (hC : 1 ≤ C ∧ C ≤ 4) (hok : fixOk A B C how = true) :
    ∀ (n i : Nat) (last : List Int) (L : List (List Int)) (c : Int) (w : World), i + n = A → last.length = 4 → (∀ k, 0 ≤ last.getD k 0 ∧ last.getD k 0 ≤ 4) → 0 ≤ c → c + (allE B n last).length ≤ 1000000000000 → ES A B C how bb bv brs bat bb2 bh bn g L c w →
      Calls Try.prog 90 #[.int .i64 i, rowV last, ptrV bb, ptrV bv, ptrV brs, ptrV bat] w fun e w' => e = .returned (.tuple #[]) ∧
        ∃ L', ES A B C how bb bv brs bat bb2 bh bn g L' (c + fixC A B C how ((L.take i).map (·.take B)) (allE B n last)) w' ∧ L'.take i = L.take i ∧ Chg (fun k => k = g ∨ k = bn) w w' := by
  intro n
  induction n with
  | zero =>
    intro i last L c w hi hl hr h0 hb s
    refine lift90 ?_
    unfold S90
    refine r_box fun b7 w1 e7 s7 g7 k7 => ?_
    have s1 := s.kp k7
    obtain ⟨c0, c1, c2⟩ := box3 s1.box
    have e : (i : Int) = (A : Int) := by omega
    have cv : w1.cell? ⟨bv, 0, none⟩ = some (.func (.func 74) #[] #[ptrV bb2, ptrV bh, ptrV bn]) := by rw [cell_row s1.vis]; rfl
    have cr : w1.cell? ⟨brs, 0, none⟩ = some (.slice (some ⟨g, 0, none⟩) A A) := by rw [cell_row s1.rowsv]; rfl
    simp (disch := omega) only [r_ln, r_pick, r_pickT, r_pickF, r_condT, r_condF, r_gdTT, r_gdFF, r_gdTF, r_gdFT, r_gqTT, r_gqFF, r_gqTF, r_gqFT, r_not, r_lss, r_leq, r_gtr, r_geq, r_eql, r_neq, r_add, r_sub, r_min2, r_max2, r_min3, r_max3, r_fa, r_iaS, r_iaA, r_ex2a, r_ex2b, r_ex3a, r_ex3b, r_ex3c, r_nc, r_keepE, Nat.zero_add, Nat.add_zero, Nat.mul_one, Int.toNat_natCast, toNat_sub1, toNat_add1, decide_true, decide_false, Bool.not_true, Bool.not_false, if_true, if_false, Bool.false_eq_true, reduceCtorEq, r_ld c0, e, r_ld cv, r_ld cr]
    refine r_use fok74 (visit_calls s1 no hA hB hC hok h0 (by omega)) rfl ?_
    rintro _ w2 ⟨rfl, s2, hc2⟩
    refine ⟨_, rfl, trivial, L, ?_, rfl, ((Chg.of_kp k7).trans hc2).mono fun _ _ h => .inr h⟩
    have hP : (L.take i).map (·.take B) = L.map (·.take B) := by rw [List.take_of_length_le (by rw [s.pad.len]; omega)]
    have hfx := fix_iff (C := C) (how := how) s.pad hB.2 hok
    have e1 : fixC A B C how ((L.take i).map (·.take B)) (allE B 0 last) = if fixP A B C how L then 1 else 0 := by
      rw [hP]
      simp [fixC, allE, hfx]
    rw [e1]; exact s2
  | succ n ih =>
    intro i last L c w hi hl hr h0 hb s
    refine lift90 ?_
    unfold S90
    refine r_box fun b7 w1 e7 s7 g7 k7 => ?_
    have s1 := s.kp k7
    obtain ⟨c0, c1, c2⟩ := box3 s1.box
    have e : ¬ (i : Int) = (A : Int) := by omega
    simp (disch := omega) only [r_ln, r_pick, r_pickT, r_pickF, r_condT, r_condF, r_gdTT, r_gdFF, r_gdTF, r_gdFT, r_gqTT, r_gqFF, r_gqTF, r_gqFT, r_not, r_lss, r_leq, r_gtr, r_geq, r_eql, r_neq, r_add, r_sub, r_min2, r_max2, r_min3, r_max3, r_fa, r_iaS, r_iaA, r_ex2a, r_ex2b, r_ex3a, r_ex3b, r_ex3c, r_nc, r_keepE, Nat.zero_add, Nat.add_zero, Nat.mul_one, Int.toNat_natCast, toNat_sub1, toNat_add1, decide_true, decide_false, Bool.not_true, Bool.not_false, if_true, if_false, Bool.false_eq_true, reduceCtorEq, r_ld c0, e, r_ldRow (n := 3) s1.box rfl, r_ldRow (n := 4) g7 (by rw [rowV_size]; exact hl), agg_cells]
    refine r_use fok55 (below_calls A C B last w1 hB.2 hl fun k => by have := hr k; omega) rfl ?_
    rintro _ w2 ⟨v, rfl, k2, ho⟩
    refine ⟨_, rfl, ?_⟩
    have hfr := belowM_fine (B := B) (ab := last) (M := 4) (by decide) fun k => (hr k).2
    have hcount := belowM_count (B := B) (ab := last) hB.2 fun k => (hr k).2
    have hall : allE B (n + 1) last = (belowM B last).flatMap fun r => (allE B n r).map (r.take B :: ·) := rfl
    rw [hall] at hb ⊢
    have h4 : ∀ r ∈ belowM B last, r.length = 4 := fun r hr => (hfr r hr).1
    generalize belowM B last = rows at *
    obtain ⟨va, vc, rfl⟩ := owned_len ho
    simp (disch := omega) only [r_ln, r_pick, r_pickT, r_pickF, r_condT, r_condF, r_gdTT, r_gdFF, r_gdTF, r_gdFT, r_gqTT, r_gqFF, r_gqTF, r_gqFT, r_not, r_lss, r_leq, r_gtr, r_geq, r_eql, r_neq, r_add, r_sub, r_min2, r_max2, r_min3, r_max3, r_fa, r_iaS, r_iaA, r_ex2a, r_ex2b, r_ex3a, r_ex3b, r_ex3c, r_nc, r_keepE, Nat.zero_add, Nat.add_zero, Nat.mul_one, Int.toNat_natCast, toNat_sub1, toNat_add1, decide_true, decide_false, Bool.not_true, Bool.not_false, if_true, if_false, Bool.false_eq_true, reduceCtorEq]
    have s2 := s1.kp k2
    have hgl : g < w1.heap.size := block_lt s1.rows
    have hnl : bn < w1.heap.size := block_lt s1.cnt
    have hpart : ∀ j, ((rows.take j).flatMap fun r => (allE B n r).map (r.take B :: ·)).length ≤ (rows.flatMap fun r => (allE B n r).map (r.take B :: ·)).length := fun j => by
      have : rows.flatMap (fun r => (allE B n r).map (r.take B :: ·)) = (rows.take j).flatMap (fun r => (allE B n r).map (r.take B :: ·)) ++ (rows.drop j).flatMap (fun r => (allE B n r).map (r.take B :: ·)) := by
        rw [← List.flatMap_append, List.take_append_drop]
      rw [this, List.length_append]; omega
    refine ⟨fun t21 wr => ∃ (j : Nat) (L' : List (List Int)), j ≤ rows.length ∧ t21 = .int .i64 j ∧ ES A B C how bb bv brs bat bb2 bh bn g L' (c + fixC A B C how ((L.take i).map (·.take B)) ((rows.take j).flatMap fun r => (allE B n r).map (r.take B :: ·))) wr ∧ L'.take i = L.take i ∧ Chg (fun k => k = g ∨ k = bn) w2 wr,
      fun t21 _ => rows.length - (intOf t21).toNat, ⟨0, L, by omega, rfl, by simpa [fixC] using s2, rfl, Chg.refl _ _⟩, ?_⟩
    rintro _ _ wr ⟨j, L', hj, rfl, sr, htk, hch⟩
    have hkw2 := Kp.trans k7 k2
    by_cases hlt : j < rows.length
    case neg =>
      have hlt' : ¬ (j : Int) < (rows.length : Int) := by omega
      have ej : j = rows.length := by omega
      subst ej
      rw [List.take_length] at sr
      simp (disch := omega) only [r_ln, r_pick, r_pickT, r_pickF, r_condT, r_condF, r_gdTT, r_gdFF, r_gdTF, r_gdFT, r_gqTT, r_gqFF, r_gqTF, r_gqFT, r_not, r_lss, r_leq, r_gtr, r_geq, r_eql, r_neq, r_add, r_sub, r_min2, r_max2, r_min3, r_max3, r_fa, r_iaS, r_iaA, r_ex2a, r_ex2b, r_ex3a, r_ex3b, r_ex3c, r_nc, r_keepE, Nat.zero_add, Nat.add_zero, Nat.mul_one, Int.toNat_natCast, toNat_sub1, toNat_add1, decide_true, decide_false, Bool.not_true, Bool.not_false, if_true, if_false, Bool.false_eq_true, reduceCtorEq, hlt']
      exact ⟨trivial, L', sr, htk, (Chg.of_kp hkw2).trans hch⟩
    have hlt' : (j : Int) < (rows.length : Int) := by omega
    have hor := owns_chg ho hch fun k hk e => by have := owned_block ho hk; omega
    obtain ⟨gg, cap, cur, e1, hgb, hgc, hgs, hrw⟩ := rows4 hor h4 hlt
    cases e1
    have hmem : rows.getD j [] ∈ rows := by rw [getD_lt _ _ _ hlt]; exact List.getElem_mem hlt
    have hl4 := h4 _ hmem
    simp (disch := omega) only [r_ln, r_pick, r_pickT, r_pickF, r_condT, r_condF, r_gdTT, r_gdFF, r_gdTF, r_gdFT, r_gqTT, r_gqFF, r_gqTF, r_gqFT, r_not, r_lss, r_leq, r_gtr, r_geq, r_eql, r_neq, r_add, r_sub, r_min2, r_max2, r_min3, r_max3, r_fa, r_iaS, r_iaA, r_ex2a, r_ex2b, r_ex3a, r_ex3b, r_ex3c, r_nc, r_keepE, Nat.zero_add, Nat.add_zero, Nat.mul_one, Int.toNat_natCast, toNat_sub1, toNat_add1, decide_true, decide_false, Bool.not_true, Bool.not_false, if_true, if_false, Bool.false_eq_true, reduceCtorEq, hlt', r_ldAt (n := 4) hgc hgs hrw]
    refine r_box fun b9 q1 e9 s9 g9 x1 => ?_
    refine r_stAll (n := 4) (ty := 80) (v := .agg (intCells (rows.getD j [])).toArray) (by kernel_rfl) (by rw [rowV_size]; exact hl4) (rowV_one _) g9 rfl fun q2 hcq2 hsq2 g9' => ?_
    have x2 : Kp wr q2 := Kp.of_chg x1 hcq2 fun k e => by omega
    have sq := sr.kp x2
    have hl4v : (Value.agg (intCells (rows.getD j [])).toArray).cells.size = 4 := by rw [rowV_size]; exact hl4
    have cr : q2.cell? ⟨brs, 0, none⟩ = some (.slice (some ⟨g, 0, none⟩) A A) := by rw [cell_row sq.rowsv]; rfl
    have hpl := sq.pad.len
    have hpf := pad_flat_length sq.pad
    have hrng : ∀ k, 0 ≤ (rows.getD j []).getD k 0 ∧ (rows.getD j []).getD k 0 ≤ 4 := fun k => (hfr _ hmem).2 k
    simp (disch := omega) only [r_ln, r_pick, r_pickT, r_pickF, r_condT, r_condF, r_gdTT, r_gdFF, r_gdTF, r_gdFT, r_gqTT, r_gqFF, r_gqTF, r_gqFT, r_not, r_lss, r_leq, r_gtr, r_geq, r_eql, r_neq, r_add, r_sub, r_min2, r_max2, r_min3, r_max3, r_fa, r_iaS, r_iaA, r_ex2a, r_ex2b, r_ex3a, r_ex3b, r_ex3c, r_nc, r_keepE, Nat.zero_add, Nat.add_zero, Nat.mul_one, Int.toNat_natCast, toNat_sub1, toNat_add1, decide_true, decide_false, Bool.not_true, Bool.not_false, if_true, if_false, Bool.false_eq_true, reduceCtorEq, r_ld cr, r_ldRow (n := 4) g9' hl4v, agg_cells]
    refine r_stAt (n := 4) (ty := 80) (v := .agg (intCells (rows.getD j [])).toArray) (by kernel_rfl) hl4v (rowV_one _) sq.rows (by simp only [List.size_toArray]; rw [hpf]; omega) fun q3 hcq3 hsq3 g3 => ?_
    have hps := pad_set sq.pad (i := i) (by omega) hl4
    have eg3 : q3.heap[g]? = some (.cells ((L'.set i (rows.getD j [])).flatMap intCells).toArray 80 (0, 0)) := by
      rw [← hps]
      simpa [Value.cells] using g3
    have s3 := sq.g no hcq3 (sq.pad.set (i := i) (by omega) hl4 hrng) eg3
    have ct : q3.cell? ⟨bat, 0, none⟩ = some (.func (.func 90) #[] #[ptrV bb, ptrV bv, ptrV brs, ptrV bat]) := by rw [cell_row s3.at_]; rfl
    have hb9 : b9 ≠ g := by have := block_lt sr.rows; omega
    have g9'' := hcq3.at g9' hb9
    simp (disch := omega) only [r_ln, r_pick, r_pickT, r_pickF, r_condT, r_condF, r_gdTT, r_gdFF, r_gdTF, r_gdFT, r_gqTT, r_gqFF, r_gqTF, r_gqFT, r_not, r_lss, r_leq, r_gtr, r_geq, r_eql, r_neq, r_add, r_sub, r_min2, r_max2, r_min3, r_max3, r_fa, r_iaS, r_iaA, r_ex2a, r_ex2b, r_ex3a, r_ex3b, r_ex3c, r_nc, r_keepE, Nat.zero_add, Nat.add_zero, Nat.mul_one, Int.toNat_natCast, toNat_sub1, toNat_add1, decide_true, decide_false, Bool.not_true, Bool.not_false, if_true, if_false, Bool.false_eq_true, reduceCtorEq, r_ld ct, r_ldRow (n := 4) g9'' hl4v, agg_cells]
    have ei : ((i : Nat) : Int) + 1 = ((i + 1 : Nat) : Int) := by omega
    rw [ei]
    have hfb := fixC_bound A B C how ((L.take i).map (·.take B)) ((rows.take j).flatMap fun r => (allE B n r).map (r.take B :: ·))
    have hp1 := hpart (j + 1)
    have htake : (rows.take (j + 1)).flatMap (fun r => (allE B n r).map (r.take B :: ·)) = (rows.take j).flatMap (fun r => (allE B n r).map (r.take B :: ·)) ++ (allE B n (rows.getD j [])).map ((rows.getD j []).take B :: ·) := by
      rw [take_succ' _ _ hlt, List.flatMap_append, getD_lt _ _ _ hlt]; simp
    rw [htake, List.length_append, List.length_map] at hp1
    refine r_use fok90 (ih (i + 1) (rows.getD j []) (L'.set i (rows.getD j [])) _ q3 (by omega) hl4 hrng (by omega) (by omega) s3) rfl ?_
    rintro _ q4 ⟨rfl, L4, s4, htk4, hc4⟩
    refine ⟨_, rfl, ?_⟩
    try simp (disch := omega) only [r_ln, r_pick, r_pickT, r_pickF, r_condT, r_condF, r_gdTT, r_gdFF, r_gdTF, r_gdFT, r_gqTT, r_gqFF, r_gqTF, r_gqFT, r_not, r_lss, r_leq, r_gtr, r_geq, r_eql, r_neq, r_add, r_sub, r_min2, r_max2, r_min3, r_max3, r_fa, r_iaS, r_iaA, r_ex2a, r_ex2b, r_ex3a, r_ex3b, r_ex3c, r_nc, r_keepE, Nat.zero_add, Nat.add_zero, Nat.mul_one, Int.toNat_natCast, toNat_sub1, toNat_add1, decide_true, decide_false, Bool.not_true, Bool.not_false, if_true, if_false, Bool.false_eq_true, reduceCtorEq]
    refine ⟨⟨j + 1, L4, by omega, by go_num, ?_, ?_, ((hch.trans (Chg.of_kp x2)).trans (hcq3.mono fun _ _ h => .inl h)).trans hc4⟩, by simp only [intOf]; omega⟩
    · rw [take_set_succ (by rw [hpl]; omega), htk] at s4
      rw [htake, fixC_append, fixC_cons, ← Int.add_assoc]
      exact s4
    · have := congrArg (List.take i) htk4
      rw [List.take_take, List.take_take, Nat.min_eq_left (by omega), List.take_set_of_le (Nat.le_refl _)] at this
      rw [this, htk]

theorem mkCells_four (n : Nat) : mkCells #[.int .i64 0, .int .i64 0, .int .i64 0, .int .i64 0] n = Array.replicate n (.int .i64 0) := by
  apply Array.ext
  · simp [mkCells]
  · intro i h1 h2
    simp only [mkCells, Array.getElem_map, Array.getElem_range, Array.getElem_replicate]
    have : i % 4 < 4 := Nat.mod_lt _ (by decide)
    show (#[Value.int .i64 0, .int .i64 0, .int .i64 0, .int .i64 0] : Array Value)[i % 4]! = _
    generalize i % 4 = q at *
    match q, this with
    | 0, _ => rfl
    | 1, _ => rfl
    | 2, _ => rfl
    | 3, _ => rfl

/-- make([]row, n) -/
theorem mk83 {n : Nat} {w : World} {K : Value → World → Prop} (hn : n ≤ 1000) (h : K (.slice (some ⟨w.heap.size, 0, none⟩) n n) (w.alloc (.cells (Array.replicate (n * 4) (.int .i64 0)) 80))) :
    mkW Try.prog 83 (.int .i64 n) (.int .i64 n) w K := by
  have e : ∀ (l : Int) (K : Value → World → Prop), mkW Try.prog 83 (.int .i64 l) (.int .i64 l) w K = (0 ≤ l ∧ l ≤ l ∧ l ≤ 4611686018427387904 ∧ ((32 : Nat) : Int) * l ≤ 281474976710656 ∧ 0 < 4 ∧
      K (.slice (some ⟨w.heap.size, 0, none⟩) l.toNat l.toNat) (w.alloc (.cells (mkCells #[.int .i64 0, .int .i64 0, .int .i64 0, .int .i64 0] (l.toNat * 4)) 80))) := fun l K => by kernel_rfl
  rw [e]
  refine ⟨by omega, by omega, by omega, by omega, by omega, ?_⟩
  rw [mkCells_four, Int.toNat_natCast]
  exact h

theorem pad_zero (A : Nat) : Pad A (List.replicate A [0, 0, 0, 0]) := by
  have e : ∀ i, i < A → (List.replicate A [(0 : Int), 0, 0, 0]).getD i [] = [0, 0, 0, 0] := fun i hi => by simp [List.getD_eq_getElem?_getD, hi]
  refine ⟨by simp, fun i hi => by rw [e i hi]; rfl, fun i k => ?_⟩
  by_cases hi : i < A
  · rw [e i hi]
    match k with
    | 0 => exact ⟨by decide, by decide⟩
    | 1 => exact ⟨by decide, by decide⟩
    | 2 => exact ⟨by decide, by decide⟩
    | 3 => exact ⟨by decide, by decide⟩
    | k + 4 => exact ⟨by simp, by simp⟩
  · have : (List.replicate A [(0 : Int), 0, 0, 0]).getD i [] = [] := by simp [List.getD_eq_getElem?_getD, hi]
    rw [this]; simp

theorem zeros80 (A : Nat) : (Array.replicate (A * 4) (Value.int .i64 0)) = ((List.replicate A [(0 : Int), 0, 0, 0]).flatMap intCells).toArray := by
  apply Array.ext'
  simp only [Array.toList_replicate]
  induction A with
  | zero => rfl
  | succ A ih => rw [List.replicate_succ, List.flatMap_cons, ← ih, Nat.add_mul, Nat.add_comm, ← List.replicate_append_replicate]; rfl

/-- How many heaps stay as they are. -/
def fixN (A B C : Nat) (how : Int) : Int := fixC A B C how [] (heaps A B C)

set_option maxRecDepth 100000 in
theorem each_calls {A B C : Nat} {how : Int} (hA : 1 ≤ A ∧ A ≤ 4) (hB : 1 ≤ B ∧ B ≤ 4) (hC : 1 ≤ C ∧ C ≤ 4) (hok : fixOk A B C how = true) (bb2 bh bn : Nat) (w : World) (hne : bb2 ≠ bn ∧ bh ≠ bn)
    (g2 : w.heap[bb2]? = some (.cells (boxV A B C).cells 25 (0, 0))) (gh : w.heap[bh]? = some (.cells #[.int .i64 how] 3 (0, 0))) (gn : w.heap[bn]? = some (.cells #[.int .i64 0] 3 (0, 0))) :
    Calls Try.prog 73 #[boxV A B C, .func (.func 74) #[] #[ptrV bb2, ptrV bh, ptrV bn]] w fun e w' => e = .returned (.tuple #[]) ∧ w'.heap[bn]? = some (.cells #[.int .i64 (fixN A B C how)] 3 (0, 0)) ∧ Chg (fun k => k = bn) w w' := by
  refine lift73 ?_
  unfold S73
  refine r_box fun b2 w1 e2 s2 p2 k1 => ?_
  refine r_box fun b3 w2 e3 s3 p3 k2 => ?_
  obtain ⟨c0, c1, c2⟩ := box3 (block_below p2 k2)
  simp (disch := omega) only [r_ln, r_pick, r_pickT, r_pickF, r_condT, r_condF, r_gdTT, r_gdFF, r_gdTF, r_gdFT, r_gqTT, r_gqFF, r_gqTF, r_gqFT, r_not, r_lss, r_leq, r_gtr, r_geq, r_eql, r_neq, r_add, r_sub, r_min2, r_max2, r_min3, r_max3, r_fa, r_iaS, r_iaA, r_ex2a, r_ex2b, r_ex3a, r_ex3b, r_ex3c, r_nc, r_keepE, Nat.zero_add, Nat.add_zero, Nat.mul_one, Int.toNat_natCast, toNat_sub1, toNat_add1, decide_true, decide_false, Bool.not_true, Bool.not_false, if_true, if_false, Bool.false_eq_true, reduceCtorEq, r_ld c0]
  refine mk83 (by omega) ?_
  have k3 : Kp w2 (w2.alloc (.cells (Array.replicate (A * 4) (.int .i64 0)) 80)) := below_alloc _
  have p80 := heap_alloc_new w2 (.cells (Array.replicate (A * 4) (.int .i64 0)) 80)
  have s80 : (w2.alloc (.cells (Array.replicate (A * 4) (.int .i64 0)) 80)).heap.size = w2.heap.size + 1 := by show (w2.heap.push _).size = _; simp
  generalize w2.alloc (.cells (Array.replicate (A * 4) (.int .i64 0)) 80) = w3 at *
  rw [zeros80] at p80
  refine box_slice fun b4 w4 e4 s4 p4 k4 => ?_
  refine r_stAll (n := 1) (ty := 83) (cs := #[.slice none 0 0]) (v := .slice (some ⟨w2.heap.size, 0, none⟩) A A) (by kernel_rfl) rfl (by intro u hu; simp [Value.cells] at hu; subst hu; rfl) p4 rfl fun w5 c5 s5 p5 => ?_
  refine r_box fun b6 w6 e6 s6 p6 k6 => ?_
  refine r_stAll (n := 1) (ty := 107) (cs := #[.nilFunc]) (by kernel_rfl) rfl (by intro u hu; simp [Value.cells] at hu; subst hu; rfl) p6 rfl fun w7 c7 s7 p7 => ?_
  refine r_drew fun w8 k8 _ => ?_
  have hn0 : bn < w.heap.size := block_lt gn
  have hh0 : bh < w.heap.size := block_lt gh
  have h20 : bb2 < w.heap.size := block_lt g2
  have carry : ∀ {k : Nat} {o : Obj}, k < w3.heap.size → w3.heap[k]? = some o → w8.heap[k]? = some o := fun {k o} hk h =>
    block_below (c7.at (block_below (c5.at (block_below h k4) (by omega)) k6) (by omega)) k8
  have k13 : Kp w w3 := Kp.trans k1 (Kp.trans k2 k3)
  have st : ES A B C how b2 b3 b4 b6 bb2 bh bn w2.heap.size (List.replicate A [0, 0, 0, 0]) 0 w8 := by
    refine ⟨carry (by omega) (block_below p2 (Kp.trans k2 k3)), carry (by omega) (block_below p3 k3), ?_, ?_, carry (by omega) (block_below g2 k13), carry (by omega) (block_below gh k13), carry (by omega) (block_below gn k13), pad_zero A, carry (by omega) p80⟩
    · exact block_below (c7.at (block_below p5 k6) (by omega)) k8
    · exact block_below p7 k8
  have no : ENo b2 b3 b4 b6 bb2 bh bn w2.heap.size := ⟨⟨by omega, by omega, by omega, by omega, hne.1, hne.2⟩, ⟨by omega, by omega, by omega, by omega, by omega, by omega⟩, by omega⟩
  have kw8 : Kp w w8 := Kp.trans (Kp.of_chg (Kp.trans (Kp.of_chg (Kp.trans k13 k4) c5 fun i e => by omega) k6) c7 fun i e => by omega) k8
  have ct : w8.cell? ⟨b6, 0, none⟩ = some (.func (.func 90) #[] #[ptrV b2, ptrV b3, ptrV b4, ptrV b6]) := by rw [cell_row st.at_]; rfl
  simp (disch := omega) only [r_ln, r_pick, r_pickT, r_pickF, r_condT, r_condF, r_gdTT, r_gdFF, r_gdTF, r_gdFT, r_gqTT, r_gqFF, r_gqTF, r_gqFT, r_not, r_lss, r_leq, r_gtr, r_geq, r_eql, r_neq, r_add, r_sub, r_min2, r_max2, r_min3, r_max3, r_fa, r_iaS, r_iaA, r_ex2a, r_ex2b, r_ex3a, r_ex3b, r_ex3c, r_nc, r_keepE, Nat.zero_add, Nat.add_zero, Nat.mul_one, Int.toNat_natCast, toNat_sub1, toNat_add1, decide_true, decide_false, Bool.not_true, Bool.not_false, if_true, if_false, Bool.false_eq_true, reduceCtorEq, r_ld ct, r_ldRow (n := 3) st.box rfl]
  refine r_use fok53 (top_calls A C B w8 hB.2) rfl ?_
  rintro _ w9 ⟨rfl, k9⟩
  refine ⟨_, rfl, k9, ?_⟩
  have hsm := heaps_small (A := A) (B := B) (C := C) hA.2 hB.2 (by omega)
  have h00 : (0 : Int) = ((0 : Nat) : Int) := rfl
  dsimp only
  rw [h00]
  refine r_use fok90 (ateach_calls no hA hB hC hok A 0 (topRow B C) _ 0 w9 (by omega) (topRow_length hB.2) (topRow_range (by omega) (by omega)) (by omega) (by unfold heaps at hsm; omega) (st.kp k9)) rfl ?_
  rintro _ w10 ⟨rfl, L', s10, _, hc10⟩
  refine ⟨_, rfl, ?_⟩
  refine ⟨trivial, ?_, ?_⟩
  · have := s10.cnt
    rw [Int.zero_add] at this
    exact this
  · have hc : Chg (fun k => k = w2.heap.size ∨ k = bn) w w10 := (Chg.of_kp (Kp.trans kw8 k9)).trans hc10
    have hk12 := (Kp.trans k1 k2).size
    exact hc.mono fun k hk h => h.elim (fun h => by omega) fun h => h

set_option maxRecDepth 100000 in
theorem fixedf_calls (A B C how : Int) (w : World) : Calls Try.prog 39 #[boxV A B C, .int .i64 how] w fun e w' => e = .returned (.tuple #[.int .i64 (if fixOk A B C how = true then fixN A.toNat B.toNat C.toNat how else 0), .int .i64 (if fixOk A B C how = true then 0 else 2)]) ∧ Kp w w' := by
  refine lift39 ?_
  unfold S39
  refine r_box fun b2 w1 e2 s2 p2 k1 => ?_
  refine r_box fun b3 w2 e3 s3 p3 k2 => ?_
  have k12 := Kp.trans k1 k2
  refine r_join1 (fun t w' => t = .bool (!fixOk A B C how) ∧ Kp w2 w') ?_ ?_
  rotate_left
  · intro kk hkk
    simp (disch := omega) only [r_ln, r_pick, r_pickT, r_pickF, r_condT, r_condF, r_gdTT, r_gdFF, r_gdTF, r_gdFT, r_gqTT, r_gqFF, r_gqTF, r_gqFT, r_not, r_lss, r_leq, r_gtr, r_geq, r_eql, r_neq, r_add, r_sub, r_min2, r_max2, r_min3, r_max3, r_fa, r_iaS, r_iaA, r_ex2a, r_ex2b, r_ex3a, r_ex3b, r_ex3c, r_nc, r_keepE, Nat.zero_add, Nat.add_zero, Nat.mul_one, Int.toNat_natCast, toNat_sub1, toNat_add1, decide_true, decide_false, Bool.not_true, Bool.not_false, if_true, if_false, Bool.false_eq_true, reduceCtorEq, r_ldRow (n := 3) (block_below p2 k2) rfl]
    refine r_use fok58 (valid_calls A B C w2) rfl ?_
    rintro _ w3 ⟨rfl, k3⟩
    refine ⟨_, rfl, ?_⟩
    have ch : w3.cell? ⟨b3, 0, none⟩ = some (.int .i64 how) := by rw [cell_row (block_below p3 k3)]; rfl
    obtain ⟨c0, c1, c2⟩ := box3 (block_below p2 (Kp.trans k2 k3))
    cases hv : validB A B C with
    | false =>
      simp (disch := omega) only [r_ln, r_pick, r_pickT, r_pickF, r_condT, r_condF, r_gdTT, r_gdFF, r_gdTF, r_gdFT, r_gqTT, r_gqFF, r_gqTF, r_gqFT, r_not, r_lss, r_leq, r_gtr, r_geq, r_eql, r_neq, r_add, r_sub, r_min2, r_max2, r_min3, r_max3, r_fa, r_iaS, r_iaA, r_ex2a, r_ex2b, r_ex3a, r_ex3b, r_ex3c, r_nc, r_keepE, Nat.zero_add, Nat.add_zero, Nat.mul_one, Int.toNat_natCast, toNat_sub1, toNat_add1, decide_true, decide_false, Bool.not_true, Bool.not_false, if_true, if_false, Bool.false_eq_true, reduceCtorEq]
      exact hkk _ _ ⟨by simp [fixOk, hv], k3⟩
    | true =>
    by_cases h0 : how < 0
    · simp (disch := omega) only [r_ln, r_pick, r_pickT, r_pickF, r_condT, r_condF, r_gdTT, r_gdFF, r_gdTF, r_gdFT, r_gqTT, r_gqFF, r_gqTF, r_gqFT, r_not, r_lss, r_leq, r_gtr, r_geq, r_eql, r_neq, r_add, r_sub, r_min2, r_max2, r_min3, r_max3, r_fa, r_iaS, r_iaA, r_ex2a, r_ex2b, r_ex3a, r_ex3b, r_ex3c, r_nc, r_keepE, Nat.zero_add, Nat.add_zero, Nat.mul_one, Int.toNat_natCast, toNat_sub1, toNat_add1, decide_true, decide_false, Bool.not_true, Bool.not_false, if_true, if_false, Bool.false_eq_true, reduceCtorEq, r_ld ch, h0]
      exact hkk _ _ ⟨congrArg Value.bool (by unfold fixOk; rw [hv, Bool.true_and]; first | (rw [decide_eq_true (by omega)]; rfl) | (rw [decide_eq_false (by omega)]; rfl)), k3⟩
    by_cases h4 : 4 < how
    · simp (disch := omega) only [r_ln, r_pick, r_pickT, r_pickF, r_condT, r_condF, r_gdTT, r_gdFF, r_gdTF, r_gdFT, r_gqTT, r_gqFF, r_gqTF, r_gqFT, r_not, r_lss, r_leq, r_gtr, r_geq, r_eql, r_neq, r_add, r_sub, r_min2, r_max2, r_min3, r_max3, r_fa, r_iaS, r_iaA, r_ex2a, r_ex2b, r_ex3a, r_ex3b, r_ex3c, r_nc, r_keepE, Nat.zero_add, Nat.add_zero, Nat.mul_one, Int.toNat_natCast, toNat_sub1, toNat_add1, decide_true, decide_false, Bool.not_true, Bool.not_false, if_true, if_false, Bool.false_eq_true, reduceCtorEq, r_ld ch, h0, h4]
      exact hkk _ _ ⟨congrArg Value.bool (by unfold fixOk; rw [hv, Bool.true_and]; first | (rw [decide_eq_true (by omega)]; rfl) | (rw [decide_eq_false (by omega)]; rfl)), k3⟩
    cases d2 : decide (how = 2) <;> cases d4 : decide (how = 4) <;> cases d3 : decide (how = 3) <;> cases dAB : decide (A = B) <;> cases dBC : decide (B = C)
    all_goals first
      | (exfalso; simp only [decide_eq_true_eq, decide_eq_false_iff_not] at d2 d4 d3; omega)
      | (simp (disch := omega) only [r_ln, r_pick, r_pickT, r_pickF, r_condT, r_condF, r_gdTT, r_gdFF, r_gdTF, r_gdFT, r_gqTT, r_gqFF, r_gqTF, r_gqFT, r_not, r_lss, r_leq, r_gtr, r_geq, r_eql, r_neq, r_add, r_sub, r_min2, r_max2, r_min3, r_max3, r_fa, r_iaS, r_iaA, r_ex2a, r_ex2b, r_ex3a, r_ex3b, r_ex3c, r_nc, r_keepE, Nat.zero_add, Nat.add_zero, Nat.mul_one, Int.toNat_natCast, toNat_sub1, toNat_add1, decide_true, decide_false, Bool.not_true, Bool.not_false, if_true, if_false, Bool.false_eq_true, reduceCtorEq, r_ld ch, r_ld c0, r_ld c1, r_ld c2, h0, h4, d2, d4, d3, dAB, dBC]
         simp only [decide_eq_true_eq, decide_eq_false_iff_not] at d2 d4 d3 dAB dBC
         exact hkk _ _ ⟨congrArg Value.bool (by unfold fixOk; rw [hv, Bool.true_and]; first | (rw [decide_eq_true (by omega)]; rfl) | (rw [decide_eq_false (by omega)]; rfl)), k3⟩)
  rintro _ w3 ⟨rfl, k3⟩
  cases hok : fixOk A B C how with
  | false =>
    simp (disch := omega) only [r_ln, r_pick, r_pickT, r_pickF, r_condT, r_condF, r_gdTT, r_gdFF, r_gdTF, r_gdFT, r_gqTT, r_gqFF, r_gqTF, r_gqFT, r_not, r_lss, r_leq, r_gtr, r_geq, r_eql, r_neq, r_add, r_sub, r_min2, r_max2, r_min3, r_max3, r_fa, r_iaS, r_iaA, r_ex2a, r_ex2b, r_ex3a, r_ex3b, r_ex3c, r_nc, r_keepE, Nat.zero_add, Nat.add_zero, Nat.mul_one, Int.toNat_natCast, toNat_sub1, toNat_add1, decide_true, decide_false, Bool.not_true, Bool.not_false, if_true, if_false, Bool.false_eq_true, reduceCtorEq]
    exact ⟨trivial, Kp.trans k12 k3⟩
  | true =>
  simp (disch := omega) only [r_ln, r_pick, r_pickT, r_pickF, r_condT, r_condF, r_gdTT, r_gdFF, r_gdTF, r_gdFT, r_gqTT, r_gqFF, r_gqTF, r_gqFT, r_not, r_lss, r_leq, r_gtr, r_geq, r_eql, r_neq, r_add, r_sub, r_min2, r_max2, r_min3, r_max3, r_fa, r_iaS, r_iaA, r_ex2a, r_ex2b, r_ex3a, r_ex3b, r_ex3c, r_nc, r_keepE, Nat.zero_add, Nat.add_zero, Nat.mul_one, Int.toNat_natCast, toNat_sub1, toNat_add1, decide_true, decide_false, Bool.not_true, Bool.not_false, if_true, if_false, Bool.false_eq_true, reduceCtorEq]
  have hv : validB A B C = true := by
    simp only [fixOk, Bool.and_eq_true] at hok; exact hok.1
  obtain ⟨a, b', c, rfl, rfl, rfl, h1, h2, h3, hb4, h5, h6⟩ := validB_nat hv
  refine r_box fun b6 w4 e6 s6 p6 k6 => ?_
  have cz : w4.cell? ⟨b6, 0, none⟩ = some (.int .i64 0) := by rw [cell_row p6]; rfl
  rw [st3 cz (frozen_row p6)]
  have p6' := setCell_block (o := 0) (v := .int .i64 0) p6 rfl
  have hc6 : Chg (fun k => k = b6) w4 (w4.setCell ⟨b6, 0, none⟩ (.int .i64 0)) := Chg.setCell _ _ rfl
  generalize w4.setCell ⟨b6, 0, none⟩ (.int .i64 0) = w5 at *
  have k36 := Kp.trans k3 k6
  have hb3 := block_lt (block_below p3 k3)
  have hb2 := block_lt (block_below p2 (Kp.trans k2 k3))
  have q2 := hc6.at (block_below p2 (Kp.trans k2 k36)) (by omega)
  have q3 := hc6.at (block_below p3 k36) (by omega)
  rw [r_ldRow (n := 3) q2 rfl]
  refine r_use fok73 (each_calls (how := how) ⟨h1, h2⟩ ⟨h3, hb4⟩ ⟨h5, h6⟩ hok b2 b3 b6 w5 ⟨by omega, by omega⟩ q2 q3 p6') rfl ?_
  rintro _ w7 ⟨rfl, q6, hc7⟩
  refine ⟨_, rfl, ?_⟩
  have cn : w7.cell? ⟨b6, 0, none⟩ = some (.int .i64 (fixN a b' c how)) := by rw [cell_row q6]; rfl
  simp (disch := omega) only [r_ln, r_pick, r_pickT, r_pickF, r_condT, r_condF, r_gdTT, r_gdFF, r_gdTF, r_gdFT, r_gqTT, r_gqFF, r_gqTF, r_gqFT, r_not, r_lss, r_leq, r_gtr, r_geq, r_eql, r_neq, r_add, r_sub, r_min2, r_max2, r_min3, r_max3, r_fa, r_iaS, r_iaA, r_ex2a, r_ex2b, r_ex3a, r_ex3b, r_ex3c, r_nc, r_keepE, Nat.zero_add, Nat.add_zero, Nat.mul_one, Int.toNat_natCast, toNat_sub1, toNat_add1, decide_true, decide_false, Bool.not_true, Bool.not_false, if_true, if_false, Bool.false_eq_true, reduceCtorEq, r_ld cn, Int.toNat_natCast]
  have hs := (Kp.trans k12 k3).size
  exact ⟨trivial, Kp.of_chg (Kp.of_chg (Kp.trans k12 k36) hc6 fun i e => by omega) hc7 fun i e => by omega⟩

theorem loop2_ghost {a0 b0 : Value} {w0 : World} {body : Fr → Value → Value → World → (Value → Value → World → Prop) → Prop} (I : Nat → Value → Value → World → Prop) (n0 : Nat) (h0 : I n0 a0 b0 w0)
    (h : ∀ (junk : Fr) (n : Nat) (a b : Value) (w : World) (next : Value → Value → World → Prop), I n a b w → (∀ a' b' w' n', n' < n → I n' a' b' w' → next a' b' w') → body junk a b w next) : Loop2 a0 b0 w0 body :=
  ⟨fun a b w => ∃ n, I n a b w, fun a b w => leastN fun n => I n a b w, ⟨n0, h0⟩, fun junk a b w hw => h junk _ a b w _ (leastN_spec hw).1 fun a' b' w' n' hlt hi => ⟨⟨n', hi⟩, Nat.lt_of_le_of_lt ((leastN_spec ⟨n', hi⟩).2 n' hi) hlt⟩⟩

set_option maxRecDepth 100000 in
theorem reffixed_calls (A B C how : Int) (w : World) : Calls Try.prog 40 #[boxV A B C, .int .i64 how] w fun e w' => e = .returned (.tuple #[.int .i64 (if fixOk A B C how = true then fixN A.toNat B.toNat C.toNat how else 0), .int .i64 (if fixOk A B C how = true then 0 else 2)]) ∧ Kp w w' := by
  refine lift40 ?_
  unfold S40
  refine r_box fun b2 w1 e2 s2 p2 k1 => ?_
  refine r_join1 (fun t w' => t = .bool (!fixOk A B C how) ∧ Kp w1 w') ?_ ?_
  rotate_left
  · intro kk hkk
    simp (disch := omega) only [r_ln, r_pick, r_pickT, r_pickF, r_condT, r_condF, r_gdTT, r_gdFF, r_gdTF, r_gdFT, r_gqTT, r_gqFF, r_gqTF, r_gqFT, r_not, r_lss, r_leq, r_gtr, r_geq, r_eql, r_neq, r_add, r_sub, r_min2, r_max2, r_min3, r_max3, r_fa, r_iaS, r_iaA, r_ex2a, r_ex2b, r_ex3a, r_ex3b, r_ex3c, r_nc, r_keepE, Nat.zero_add, Nat.add_zero, Nat.mul_one, Int.toNat_natCast, toNat_sub1, toNat_add1, decide_true, decide_false, Bool.not_true, Bool.not_false, if_true, if_false, Bool.false_eq_true, reduceCtorEq, r_ldRow (n := 3) p2 rfl]
    refine r_use fok62 (good_calls A B C w1) rfl ?_
    rintro _ w3 ⟨rfl, k3⟩
    refine ⟨_, rfl, ?_⟩
    obtain ⟨c0, c1, c2⟩ := box3 (block_below p2 k3)
    cases hv : validB A B C with
    | false =>
      simp (disch := omega) only [r_ln, r_pick, r_pickT, r_pickF, r_condT, r_condF, r_gdTT, r_gdFF, r_gdTF, r_gdFT, r_gqTT, r_gqFF, r_gqTF, r_gqFT, r_not, r_lss, r_leq, r_gtr, r_geq, r_eql, r_neq, r_add, r_sub, r_min2, r_max2, r_min3, r_max3, r_fa, r_iaS, r_iaA, r_ex2a, r_ex2b, r_ex3a, r_ex3b, r_ex3c, r_nc, r_keepE, Nat.zero_add, Nat.add_zero, Nat.mul_one, Int.toNat_natCast, toNat_sub1, toNat_add1, decide_true, decide_false, Bool.not_true, Bool.not_false, if_true, if_false, Bool.false_eq_true, reduceCtorEq]
      exact hkk _ _ ⟨by simp [fixOk, hv], k3⟩
    | true =>
    by_cases h0 : how < 0
    · simp (disch := omega) only [r_ln, r_pick, r_pickT, r_pickF, r_condT, r_condF, r_gdTT, r_gdFF, r_gdTF, r_gdFT, r_gqTT, r_gqFF, r_gqTF, r_gqFT, r_not, r_lss, r_leq, r_gtr, r_geq, r_eql, r_neq, r_add, r_sub, r_min2, r_max2, r_min3, r_max3, r_fa, r_iaS, r_iaA, r_ex2a, r_ex2b, r_ex3a, r_ex3b, r_ex3c, r_nc, r_keepE, Nat.zero_add, Nat.add_zero, Nat.mul_one, Int.toNat_natCast, toNat_sub1, toNat_add1, decide_true, decide_false, Bool.not_true, Bool.not_false, if_true, if_false, Bool.false_eq_true, reduceCtorEq, h0]
      exact hkk _ _ ⟨congrArg Value.bool (by unfold fixOk; rw [hv, Bool.true_and]; first | (rw [decide_eq_true (by omega)]; rfl) | (rw [decide_eq_false (by omega)]; rfl)), k3⟩
    by_cases h4 : 4 < how
    · simp (disch := omega) only [r_ln, r_pick, r_pickT, r_pickF, r_condT, r_condF, r_gdTT, r_gdFF, r_gdTF, r_gdFT, r_gqTT, r_gqFF, r_gqTF, r_gqFT, r_not, r_lss, r_leq, r_gtr, r_geq, r_eql, r_neq, r_add, r_sub, r_min2, r_max2, r_min3, r_max3, r_fa, r_iaS, r_iaA, r_ex2a, r_ex2b, r_ex3a, r_ex3b, r_ex3c, r_nc, r_keepE, Nat.zero_add, Nat.add_zero, Nat.mul_one, Int.toNat_natCast, toNat_sub1, toNat_add1, decide_true, decide_false, Bool.not_true, Bool.not_false, if_true, if_false, Bool.false_eq_true, reduceCtorEq, h0, h4]
      exact hkk _ _ ⟨congrArg Value.bool (by unfold fixOk; rw [hv, Bool.true_and]; first | (rw [decide_eq_true (by omega)]; rfl) | (rw [decide_eq_false (by omega)]; rfl)), k3⟩
    cases d2 : decide (how = 2) <;> cases d4 : decide (how = 4) <;> cases d3 : decide (how = 3) <;> cases dAB : decide (A = B) <;> cases dBC : decide (B = C)
    all_goals first
      | (exfalso; simp only [decide_eq_true_eq, decide_eq_false_iff_not] at d2 d4 d3; omega)
      | (simp (disch := omega) only [r_ln, r_pick, r_pickT, r_pickF, r_condT, r_condF, r_gdTT, r_gdFF, r_gdTF, r_gdFT, r_gqTT, r_gqFF, r_gqTF, r_gqFT, r_not, r_lss, r_leq, r_gtr, r_geq, r_eql, r_neq, r_add, r_sub, r_min2, r_max2, r_min3, r_max3, r_fa, r_iaS, r_iaA, r_ex2a, r_ex2b, r_ex3a, r_ex3b, r_ex3c, r_nc, r_keepE, Nat.zero_add, Nat.add_zero, Nat.mul_one, Int.toNat_natCast, toNat_sub1, toNat_add1, decide_true, decide_false, Bool.not_true, Bool.not_false, if_true, if_false, Bool.false_eq_true, reduceCtorEq, r_ld c0, r_ld c1, r_ld c2, h0, h4, d2, d4, d3, dAB, dBC]
         simp only [decide_eq_true_eq, decide_eq_false_iff_not] at d2 d4 d3 dAB dBC
         exact hkk _ _ ⟨congrArg Value.bool (by unfold fixOk; rw [hv, Bool.true_and]; first | (rw [decide_eq_true (by omega)]; rfl) | (rw [decide_eq_false (by omega)]; rfl)), k3⟩)
  rintro _ w3 ⟨rfl, k3⟩
  have k13 := Kp.trans k1 k3
  cases hok : fixOk A B C how with
  | false =>
    simp (disch := omega) only [r_ln, r_pick, r_pickT, r_pickF, r_condT, r_condF, r_gdTT, r_gdFF, r_gdTF, r_gdFT, r_gqTT, r_gqFF, r_gqTF, r_gqFT, r_not, r_lss, r_leq, r_gtr, r_geq, r_eql, r_neq, r_add, r_sub, r_min2, r_max2, r_min3, r_max3, r_fa, r_iaS, r_iaA, r_ex2a, r_ex2b, r_ex3a, r_ex3b, r_ex3c, r_nc, r_keepE, Nat.zero_add, Nat.add_zero, Nat.mul_one, Int.toNat_natCast, toNat_sub1, toNat_add1, decide_true, decide_false, Bool.not_true, Bool.not_false, if_true, if_false, Bool.false_eq_true, reduceCtorEq]
    exact ⟨trivial, k13⟩
  | true =>
  simp (disch := omega) only [r_ln, r_pick, r_pickT, r_pickF, r_condT, r_condF, r_gdTT, r_gdFF, r_gdTF, r_gdFT, r_gqTT, r_gqFF, r_gqTF, r_gqFT, r_not, r_lss, r_leq, r_gtr, r_geq, r_eql, r_neq, r_add, r_sub, r_min2, r_max2, r_min3, r_max3, r_fa, r_iaS, r_iaA, r_ex2a, r_ex2b, r_ex3a, r_ex3b, r_ex3c, r_nc, r_keepE, Nat.zero_add, Nat.add_zero, Nat.mul_one, Int.toNat_natCast, toNat_sub1, toNat_add1, decide_true, decide_false, Bool.not_true, Bool.not_false, if_true, if_false, Bool.false_eq_true, reduceCtorEq]
  have hv : validB A B C = true := by
    simp only [fixOk, Bool.and_eq_true] at hok; exact hok.1
  obtain ⟨a, b', c, rfl, rfl, rfl, h1, h2, h3, hb4, h5, h6⟩ := validB_nat hv
  have p3 := block_below p2 k3
  rw [r_ldRow (n := 3) p3 rfl]
  refine r_use fok66 (empty_calls a b' c w3 (by omega) (by omega) (by omega)) rfl ?_
  rintro _ w4 ⟨vx, rfl, k4, g, bs, hox, hg, hbs⟩
  refine ⟨_, rfl, ?_⟩
  have hbnew : ∀ i, i < a → w3.heap.size ≤ bs i := fun i hi => hbs i (by simpa using hi)
  have hblt := block_lt p3
  have h0get : (heaps a b' (c : Int))[0]? = some (zeros a b') := by rw [← iterN_heaps (by omega) hb4 (by omega)]; rfl
  have hsm := heaps_small (A := a) (B := b') (C := c) h2 hb4 (by omega)
  have hpos := (List.getElem?_eq_some_iff.1 h0get).1
  have hks := k13.size
  simp only [Int.toNat_natCast]
  refine loop2_ghost (fun n t6 t8 wr => (∃ (i : Nat) (x : List (List Int)), n + i = (heaps a b' (c : Int)).length ∧ t8 = .bool true ∧ t6 = .int .i64 (fixC a b' c how [] ((heaps a b' c).take i)) ∧ (heaps a b' (c : Int))[i]? = some x ∧ OwnRows wr vx g bs x ∧ Chg (fun q => ∃ i, i < a ∧ q = bs i) w4 wr) ∨
      (t8 = .bool false ∧ t6 = .int .i64 (fixC a b' c how [] (heaps a b' c)) ∧ Chg (fun q => ∃ i, i < a ∧ q = bs i) w4 wr)) (heaps a b' (c : Int)).length
    (.inl ⟨0, zeros a b', by omega, rfl, rfl, h0get, hox, Chg.refl _ _⟩) ?_
  rintro _ n _ _ wr next (⟨i, x, hni, rfl, rfl, hix, hoxr, hch⟩ | ⟨rfl, rfl, hch⟩) hnext
  · have hbr := hch.at (block_below p3 k4) fun ⟨q, hq, e⟩ => by have := hbnew q hq; omega
    have hmem := List.mem_of_getElem? hix
    obtain ⟨hsz4, hnn4⟩ := heaps_nonneg (by omega) hb4 (by omega) hix
    have hh := heapOk_iff.1 ((heapOk_mem (A := a) (by omega) hb4).2 hmem)
    simp (disch := omega) only [r_ln, r_pick, r_pickT, r_pickF, r_condT, r_condF, r_gdTT, r_gdFF, r_gdTF, r_gdFT, r_gqTT, r_gqFF, r_gqTF, r_gqFT, r_not, r_lss, r_leq, r_gtr, r_geq, r_eql, r_neq, r_add, r_sub, r_min2, r_max2, r_min3, r_max3, r_fa, r_iaS, r_iaA, r_ex2a, r_ex2b, r_ex3a, r_ex3b, r_ex3c, r_nc, r_keepE, Nat.zero_add, Nat.add_zero, Nat.mul_one, Int.toNat_natCast, toNat_sub1, toNat_add1, decide_true, decide_false, Bool.not_true, Bool.not_false, if_true, if_false, Bool.false_eq_true, reduceCtorEq, r_ldRow (n := 3) hbr rfl]
    refine r_use fok16 (changedR_calls hh ⟨h1, h2⟩ ⟨h3, hb4⟩ ⟨h5, h6⟩ vx how wr hoxr.rd) rfl ?_
    rintro _ w5 ⟨v5, rfl, k5, hr5⟩
    refine ⟨_, rfl, ?_⟩
    refine r_use fok20 (same_calls v5 vx _ x w5 hr5 (hoxr.kp k5).rd) rfl ?_
    rintro _ w6 ⟨rfl, k6⟩
    refine ⟨_, rfl, ?_⟩
    have hilt := (List.getElem?_eq_some_iff.1 hix).1
    have hfb := fixC_bound a b' c how [] ((heaps a b' (c : Int)).take i)
    have htl : ((heaps a b' (c : Int)).take i).length ≤ (heaps a b' (c : Int)).length := by rw [List.length_take]; omega
    have htk : (heaps a b' (c : Int)).take (i + 1) = (heaps a b' (c : Int)).take i ++ [x] := by
      rw [take_succ' _ _ hilt]
      congr 2
      exact (List.getElem?_eq_some_iff.1 hix).2
    have hfs : fixC a b' c how [] ((heaps a b' (c : Int)).take (i + 1)) = fixC a b' c how [] ((heaps a b' (c : Int)).take i) + if chM a b' c x how = x then 1 else 0 := by
      rw [htk, fixC_append]; simp [fixC]
    have k56 := Kp.trans k5 k6
    refine r_join1 (fun t6 w' => t6 = .int .i64 (fixC a b' c how [] ((heaps a b' c).take (i + 1))) ∧ w6 = w') ?_ ?_
    rotate_left
    · intro kk hkk
      by_cases he : chM a b' c x how = x
      · simp (disch := omega) only [r_ln, r_pick, r_pickT, r_pickF, r_condT, r_condF, r_gdTT, r_gdFF, r_gdTF, r_gdFT, r_gqTT, r_gqFF, r_gqTF, r_gqFT, r_not, r_lss, r_leq, r_gtr, r_geq, r_eql, r_neq, r_add, r_sub, r_min2, r_max2, r_min3, r_max3, r_fa, r_iaS, r_iaA, r_ex2a, r_ex2b, r_ex3a, r_ex3b, r_ex3c, r_nc, r_keepE, Nat.zero_add, Nat.add_zero, Nat.mul_one, Int.toNat_natCast, toNat_sub1, toNat_add1, decide_true, decide_false, Bool.not_true, Bool.not_false, if_true, if_false, Bool.false_eq_true, reduceCtorEq, eq_true he]
        rw [if_pos he] at hfs
        exact hkk _ _ ⟨by rw [hfs], rfl⟩
      · simp (disch := omega) only [r_ln, r_pick, r_pickT, r_pickF, r_condT, r_condF, r_gdTT, r_gdFF, r_gdTF, r_gdFT, r_gqTT, r_gqFF, r_gqTF, r_gqFT, r_not, r_lss, r_leq, r_gtr, r_geq, r_eql, r_neq, r_add, r_sub, r_min2, r_max2, r_min3, r_max3, r_fa, r_iaS, r_iaA, r_ex2a, r_ex2b, r_ex3a, r_ex3b, r_ex3c, r_nc, r_keepE, Nat.zero_add, Nat.add_zero, Nat.mul_one, Int.toNat_natCast, toNat_sub1, toNat_add1, decide_true, decide_false, Bool.not_true, Bool.not_false, if_true, if_false, Bool.false_eq_true, reduceCtorEq, he]
        rw [if_neg he, Int.add_zero] at hfs
        exact hkk _ _ ⟨by rw [hfs], rfl⟩
    rintro _ _ ⟨rfl, rfl⟩
    have hb6 := block_below hbr k56
    rw [r_ldRow (n := 3) hb6 rfl]
    refine r_use fok23 (next_calls a b' c vx g bs x w6 (by omega) (by omega) (by omega) (by omega) (hoxr.kp k56) hsz4 hnn4) rfl ?_
    rintro _ w7 ⟨rfl, ho7, hc7⟩
    refine ⟨_, rfl, ?_⟩
    rw [hsz4.1] at hc7
    have hc4 := (hch.trans (Chg.of_kp k56)).trans hc7
    rw [next_place (by omega) hb4 (by omega) hix] at ho7 ⊢
    cases hnx : (heaps a b' (c : Int))[i + 1]? with
    | none =>
      have hl := List.getElem?_eq_none_iff.1 hnx
      rw [List.take_of_length_le hl]
      exact hnext _ _ _ 0 (by omega) (.inr ⟨rfl, rfl, hc4⟩)
    | some x' =>
      rw [hnx] at ho7
      exact hnext _ _ _ (n - 1) (by omega) (.inl ⟨i + 1, x', by omega, rfl, rfl, hnx, ho7, hc4⟩)
  · simp (disch := omega) only [r_ln, r_pick, r_pickT, r_pickF, r_condT, r_condF, r_gdTT, r_gdFF, r_gdTF, r_gdFT, r_gqTT, r_gqFF, r_gqTF, r_gqFT, r_not, r_lss, r_leq, r_gtr, r_geq, r_eql, r_neq, r_add, r_sub, r_min2, r_max2, r_min3, r_max3, r_fa, r_iaS, r_iaA, r_ex2a, r_ex2b, r_ex3a, r_ex3b, r_ex3c, r_nc, r_keepE, Nat.zero_add, Nat.add_zero, Nat.mul_one, Int.toNat_natCast, toNat_sub1, toNat_add1, decide_true, decide_false, Bool.not_true, Bool.not_false, if_true, if_false, Bool.false_eq_true, reduceCtorEq]
    exact ⟨rfl, Kp.of_chg (Kp.trans k13 k4) hch fun k ⟨q, hq, e⟩ => by have := hbnew q hq; omega⟩

set_option maxRecDepth 100000 in
theorem fixlaw_calls (A B C how : Int) (w : World) : Calls Try.prog 9 #[boxV A B C, .int .i64 how] w fun e w' => e = .returned (.bool true) ∧ Kp w w' := by
  refine lift9 ?_
  unfold S9
  refine r_box fun b2 w1 e2 s2 p2 k1 => ?_
  rw [r_ldRow (n := 3) p2 rfl]
  refine r_use fok39 (fixedf_calls A B C how w1) rfl ?_
  rintro _ w2 ⟨rfl, k2⟩
  refine ⟨_, rfl, ?_⟩
  have p3 := block_below p2 k2
  simp only [r_ex2a, r_ex2b]
  rw [r_ldRow (n := 3) p3 rfl]
  refine r_use fok40 (reffixed_calls A B C how w2) rfl ?_
  rintro _ w3 ⟨rfl, k3⟩
  refine ⟨_, rfl, ?_⟩
  simp (disch := omega) only [r_ex2a, r_ex2b, r_eql, r_gdTT, r_pickT, decide_true]
  refine r_use fok17 (alive_calls w3) rfl ?_
  rintro _ w4 ⟨rfl, k4⟩
  refine ⟨_, rfl, ?_⟩
  simp (disch := omega) only [r_ln, r_pick, r_pickT, r_pickF, r_condT, r_condF, r_gdTT, r_gdFF, r_gdTF, r_gdFT, r_gqTT, r_gqFF, r_gqTF, r_gqFT, r_not, r_lss, r_leq, r_gtr, r_geq, r_eql, r_neq, r_add, r_sub, r_min2, r_max2, r_min3, r_max3, r_fa, r_iaS, r_iaA, r_ex2a, r_ex2b, r_ex3a, r_ex3b, r_ex3c, r_nc, r_keepE, Nat.zero_add, Nat.add_zero, Nat.mul_one, Int.toNat_natCast, toNat_sub1, toNat_add1, decide_true, decide_false, Bool.not_true, Bool.not_false, if_true, if_false, Bool.false_eq_true, reduceCtorEq]
  exact ⟨trivial, Kp.trans k1 (Kp.trans k2 (Kp.trans k3 k4))⟩

end Go.Proofs.Ytaephdjmpmbfpaa
