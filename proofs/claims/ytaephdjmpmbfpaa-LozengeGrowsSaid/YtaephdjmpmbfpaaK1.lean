/- Contract: Corners. -/
import Derived.Test.YtaephdjmpmbfpaaR1
import Derived.Maps.AppendAt
set_option linter.all false
namespace Go.Proofs.Ytaephdjmpmbfpaa
open Go.Lf Go.RowKit Go.Hp

theorem slt30 : SlT 30 35 2 16 := SlT.mk' (z := .agg #[.int .i64 0, .int .i64 0]) (by kernel_rfl) (by kernel_rfl) rfl (by decide)
theorem bs30 (x y : Int) (w : World) (K : Value → World → Prop) : bsW Try.prog 30 1 [(0, .agg #[.int .i64 x, .int .i64 y])] w K = K (.slice (some ⟨w.heap.size, 0, none⟩) 1 1) (w.alloc (.cells (Value.agg #[.int .i64 x, .int .i64 y]).cells 35)) := by kernel_rfl
theorem bd35 (x y : Int) (K : Value → Prop) : bdQ Try.prog 35 [(0, .int .i64 x), (1, .int .i64 y)] K = K (.agg #[.int .i64 x, .int .i64 y]) := by kernel_rfl

/-- Places as cells: column, row. -/
def cellsOf (P : List (Nat × Nat)) : List Value := P.flatMap fun p => [.int .i64 (p.2 : Nat), .int .i64 (p.1 : Nat)]
theorem cellsOf_append (P Q : List (Nat × Nat)) : cellsOf (P ++ Q) = cellsOf P ++ cellsOf Q := by simp [cellsOf]

/-- The first n places of rows of B. -/
def pl (B n : Nat) : List (Nat × Nat) := (List.range n).map fun p => (p / B, p % B)
theorem pl_succ {B i j : Nat} (hj : j < B) : pl B (i * B + j + 1) = pl B (i * B + j) ++ [(i, j)] := by
  unfold pl
  rw [List.range_succ, List.map_append]
  congr 1
  simp only [List.map_cons, List.map_nil]
  rw [Nat.add_comm, Nat.add_mul_div_right _ _ (by omega), Nat.add_mul_mod_self_right, Nat.div_eq_of_lt hj, Nat.mod_eq_of_lt hj, Nat.zero_add]

def addB (C : Int) (h : List (List Int)) (p : Nat × Nat) : Bool := decide (hat h p.1 p.2 < C ∧ (p.2 = 0 ∨ hat h p.1 p.2 < hat h p.1 (p.2 - 1)) ∧ (p.1 = 0 ∨ hat h p.1 p.2 < hat h (p.1 - 1) p.2))
def takeB (A B : Nat) (h : List (List Int)) (p : Nat × Nat) : Bool := decide (0 < hat h p.1 p.2 ∧ (p.2 + 1 = B ∨ hat h p.1 (p.2 + 1) < hat h p.1 p.2) ∧ (p.1 + 1 = A ∨ hat h (p.1 + 1) p.2 < hat h p.1 p.2))
def addL (A B : Nat) (C : Int) (h : List (List Int)) : List (Nat × Nat) := (pl B (A * B)).filter (addB C h)
def takeL (A B : Nat) (h : List (List Int)) : List (Nat × Nat) := (pl B (A * B)).filter (takeB A B h)

/-- The slice v holds places, in a block of its own. -/
def CellsAt (base : Nat) (w : World) (v : Value) (P : List (Nat × Nat)) : Prop := w.ownsRow base 35 2 v P.length (cellsOf P)

theorem CellsAt.kp {base : Nat} {w w' : World} {v : Value} {P : List (Nat × Nat)} (h : CellsAt base w v P) (hk : Kp w w') : CellsAt base w' v P := owns_kp h hk
theorem CellsAt.nil (base : Nat) (w : World) : CellsAt base w nilS [] := World.ownsRow_nil _ _ _ _

set_option maxRecDepth 100000 in
/-- append(v, x): and where the new slice lies. -/
theorem r_pushAt {t e ty : TypeId} {size bytes base n : Nat} {v x : Value} {xs : List Value} {w : World} {K : Value → World → Prop} (T : SlT t e size bytes)
    (hbs : ∀ K : Value → World → Prop, bsW Try.prog t 1 [(0, x)] w K = K (.slice (some ⟨w.heap.size, 0, none⟩) 1 1) (w.alloc (.cells x.cells e)))
    (hx : x.cells.size = size) (h1 : ∀ u ∈ x.cells.toList, u.oneCell' = true) (hown : w.ownsRow base e size v n xs) (hn : n + 1 ≤ 1099511627776) (hby : bytes ≤ 128) (hb : base ≤ w.heap.size)
    (hk : ∀ v' w', w'.ownsRow base e size v' (n + 1) (xs ++ x.cells.toList) → w.grownBy w' v.ownBlock → (v'.ownBlock = v.ownBlock ∨ ∃ b, v'.ownBlock = some b ∧ w.heap.size ≤ b) → K v' w') :
    bsW Try.prog t 1 [(0, x)] w fun s w => semW Try.prog (apS [t, t] ty [v, s]) w K := by
  rw [hbs]
  obtain ⟨i, z, i1, i2, i3, i4, i5⟩ := T.info
  have hb2 : (n + 1) * bytes ≤ 140737488355328 := Nat.le_trans (Nat.mul_le_mul hn hby) (by decide)
  have hsz : (w.alloc (.cells x.cells e)).heap.size = w.heap.size + 1 := by show (w.heap.push _).size = _; simp
  obtain ⟨v', w', hr, ho, hg, _, hat⟩ := run_append_own_at (P := Try.prog) (w := w.alloc (.cells x.cells e)) base t ty e i z size bytes T.und i1 i2 i3 i4 i5 T.pos v n xs (hown.alloc _) ⟨w.heap.size, 0, none⟩ 1 1 x.cells.toList (by simp [hx]) (cells_at_row (heap_alloc_new w _)) h1 (by unfold maxLen; omega) hb2 (by omega)
  refine semW_of_run (by simp [apS, hr]) (hk v' w' ho ?_ (hat.imp id fun h => ⟨_, h, by omega⟩))
  exact ⟨hg.os, hg.tape, hg.output, Nat.le_trans (by show _ ≤ (w.heap.push _).size; simp) hg.size, fun k hlt hne => (hg.block k (by show k < (w.heap.push _).size; simp; omega) hne).trans (Below.heap_alloc w _ k hlt)⟩

/-- Two lists that are not in one block. -/
def Apart (v v' : Value) : Prop := v.ownBlock = none ∨ v'.ownBlock = none ∨ v.ownBlock ≠ v'.ownBlock
theorem Apart.symm {v v' : Value} (h : Apart v v') : Apart v' v := by
  rcases h with h | h | h
  · exact .inr (.inl h)
  · exact .inl h
  · exact .inr (.inr (Ne.symm h))

theorem CellsAt.block {base : Nat} {w : World} {v : Value} {P : List (Nat × Nat)} {k : Nat} (h : CellsAt base w v P) (hk : v.ownBlock = some k) : base ≤ k ∧ k < w.heap.size := World.ownsRow.lt h k hk

set_option maxRecDepth 100000 in
theorem r_pushCell {base : Nat} {ty : TypeId} {v v2 : Value} {P Q : List (Nat × Nat)} {i j : Nat} {w : World} {K : Value → World → Prop} (h : CellsAt base w v P) (h2 : CellsAt base w v2 Q) (hap : Apart v v2) (hn : P.length + 1 ≤ 1000000) (hb : base ≤ w.heap.size)
    (hk : ∀ v' w', CellsAt base w' v' (P ++ [(i, j)]) → CellsAt base w' v2 Q → Apart v' v2 → Chg (fun k => base ≤ k) w w' → K v' w') :
    bsW Try.prog 30 1 [(0, .agg #[.int .i64 (j : Nat), .int .i64 (i : Nat)])] w fun s w => semW Try.prog (apS [30, 30] ty [v, s]) w K :=
  r_pushAt slt30 (bs30 _ _ _) rfl (by intro u hu; simp [Value.cells] at hu; rcases hu with rfl | rfl <;> rfl) h (by omega) (by omega) hb fun v' w' ho hg hat => by
    refine hk v' w' ?_ ?_ ?_ (Chg.of_grown hg fun k hk => (h.block hk).1)
    · unfold CellsAt
      rw [cellsOf_append, List.length_append]
      simpa [Value.cells, cellsOf] using ho
    · refine owns_chg h2 (Chg.of_grown (S := fun k => v.ownBlock = some k) hg fun k h => h) fun k hk' hv => ?_
      rcases hap with h | h | h
      · rw [h] at hv; cases hv
      · rw [h] at hk'; cases hk'
      · exact h (by rw [hk', hv])
    · rcases hat with h | ⟨b, h, hlt⟩
      · unfold Apart; rw [h]; exact hap
      · refine .inr ?_
        cases hv2 : v2.ownBlock with
        | none => exact .inl rfl
        | some k =>
          refine .inr ?_
          rw [h]
          intro e
          cases e
          have := (h2.block hv2).2
          omega

/-- What Corners hands back. -/
def CornRes (A B C : Int) (h : List (List Int)) (w w' : World) (v8 v9 : Value) (err : Int) : Prop :=
  err = heapErr A B C h ∧ if err = 0 then CellsAt w.heap.size w' v8 (addL A.toNat B.toNat C h) ∧ CellsAt w.heap.size w' v9 (takeL A.toNat B.toNat h) else v8 = nilS ∧ v9 = nilS

theorem filter_push {f : Nat × Nat → Bool} {P : List (Nat × Nat)} {x : Nat × Nat} : (P ++ [x]).filter f = if f x = true then P.filter f ++ [x] else P.filter f := by
  rw [List.filter_append]
  by_cases h : f x = true <;> simp [h]

theorem pl_length (B n : Nat) : (pl B n).length = n := by simp [pl]

set_option maxRecDepth 100000 in
theorem corners_calls (A B C : Int) (v : Value) (h : List (List Int)) (w : World) (hr : RdRows w v h) :
    Calls Try.prog 14 #[boxV A B C, v] w fun e w' => ∃ v8 v9 err, e = .returned (.tuple #[v8, v9, .int .i64 err]) ∧ Kp w w' ∧ CornRes A B C h w w' v8 v9 err := by
  refine lift14 ?_
  unfold S14
  refine r_box fun b w1 hbw hsz hb hk => ?_
  rw [r_ldRow (n := 3) hb rfl]
  refine r_use fok47 (checked_calls A B C v h w1 (hr.below hk)) rfl ?_
  rintro _ w2 ⟨rfl, k2⟩
  refine ⟨_, rfl, ?_⟩
  have hk2 := Kp.trans hk k2
  rcases heapErr_cases A B C h with he | he
  rotate_left
  · have h20 : ¬ ((2 : Int) = 0) := by decide
    simp (disch := omega) only [r_ln, r_pick, r_pickT, r_pickF, r_condT, r_condF, r_gdTT, r_gdFF, r_gdTF, r_gdFT, r_gqTT, r_gqFF, r_gqTF, r_gqFT, r_not, r_lss, r_leq, r_gtr, r_geq, r_eql, r_neq, r_add, r_sub, r_min2, r_max2, r_min3, r_max3, r_fa, r_iaS, r_iaA, r_ex2a, r_ex2b, r_ex3a, r_ex3b, r_ex3c, r_nc, r_keepE, Nat.zero_add, Nat.add_zero, Nat.mul_one, Int.toNat_natCast, toNat_sub1, toNat_add1, decide_true, decide_false, Bool.not_true, Bool.not_false, if_true, if_false, Bool.false_eq_true, reduceCtorEq, he, h20]
    exact ⟨nilS, nilS, 2, rfl, hk2, by rw [he], by rw [if_neg h20]; exact ⟨rfl, rfl⟩⟩
  obtain ⟨a, b', c, rfl, rfl, rfl, hA, hB, hC, hh⟩ := isHeap_of he
  have hs := sized_of hh
  obtain ⟨va, vc, rfl, _⟩ := hr.len
  have hl := hs.1
  simp (disch := omega) only [r_ln, r_pick, r_pickT, r_pickF, r_condT, r_condF, r_gdTT, r_gdFF, r_gdTF, r_gdFT, r_gqTT, r_gqFF, r_gqTF, r_gqFT, r_not, r_lss, r_leq, r_gtr, r_geq, r_eql, r_neq, r_add, r_sub, r_min2, r_max2, r_min3, r_max3, r_fa, r_iaS, r_iaA, r_ex2a, r_ex2b, r_ex3a, r_ex3b, r_ex3c, r_nc, r_keepE, Nat.zero_add, Nat.add_zero, Nat.mul_one, Int.toNat_natCast, toNat_sub1, toNat_add1, decide_true, decide_false, Bool.not_true, Bool.not_false, if_true, if_false, Bool.false_eq_true, reduceCtorEq, he, hl]
  have hab : a * b' ≤ 16 := Nat.mul_le_mul hA.2 hB.2
  have hks := hk2.size
  refine ⟨fun t8 t9 t22 wr => ∃ i : Nat, i ≤ a ∧ t22 = .int .i64 i ∧ Kp w2 wr ∧ CellsAt w2.heap.size wr t8 ((pl b' (i * b')).filter (addB c h)) ∧ CellsAt w2.heap.size wr t9 ((pl b' (i * b')).filter (takeB a b' h)) ∧ Apart t8 t9, fun _ _ t22 _ => a - (intOf t22).toNat,
    ⟨0, by omega, rfl, Kp.refl _, by rw [Nat.zero_mul]; exact CellsAt.nil _ _, by rw [Nat.zero_mul]; exact CellsAt.nil _ _, .inl rfl⟩, ?_⟩
  rintro _ t8 t9 _ wr ⟨i, hi, rfl, hkr, h8, h9, hap⟩
  by_cases hlt : i < a
  case neg =>
    have hlt' : ¬ (i : Int) < (a : Int) := by omega
    have e : i = a := by omega
    subst e
    simp (disch := omega) only [r_ln, r_pick, r_pickT, r_pickF, r_condT, r_condF, r_gdTT, r_gdFF, r_gdTF, r_gdFT, r_gqTT, r_gqFF, r_gqTF, r_gqFT, r_not, r_lss, r_leq, r_gtr, r_geq, r_eql, r_neq, r_add, r_sub, r_min2, r_max2, r_min3, r_max3, r_fa, r_iaS, r_iaA, r_ex2a, r_ex2b, r_ex3a, r_ex3b, r_ex3c, r_nc, r_keepE, Nat.zero_add, Nat.add_zero, Nat.mul_one, Int.toNat_natCast, toNat_sub1, toNat_add1, decide_true, decide_false, Bool.not_true, Bool.not_false, if_true, if_false, Bool.false_eq_true, reduceCtorEq, hlt']
    refine ⟨t8, t9, 0, rfl, Kp.trans hk2 hkr, he.symm, ?_⟩
    simp only [if_true, Int.toNat_natCast]
    have wk : ∀ {v : Value} {P : List (Nat × Nat)}, CellsAt w2.heap.size wr v P → CellsAt w.heap.size wr v P := fun ho => ⟨ho.1, by
      rcases ho.2 with h | ⟨g, cap, cur, r1, r2, r3⟩
      · exact .inl h
      · exact .inr ⟨g, cap, cur, r1, by omega, r3⟩⟩
    exact ⟨wk h8, wk h9⟩
  have hlt' : (i : Int) < (a : Int) := by omega
  have hrr := hr.below hk2
  obtain ⟨b1, o1, cap1, rv, e1, hc0, hrow⟩ := hrr.row (i := i) (by omega)
  cases e1
  obtain ⟨ra, rc, rfl, _⟩ := hrow.len
  have hrl := hs.2 i hlt
  have hc := cell_later hkr hc0
  simp (disch := omega) only [r_ln, r_pick, r_pickT, r_pickF, r_condT, r_condF, r_gdTT, r_gdFF, r_gdTF, r_gdFT, r_gqTT, r_gqFF, r_gqTF, r_gqFT, r_not, r_lss, r_leq, r_gtr, r_geq, r_eql, r_neq, r_add, r_sub, r_min2, r_max2, r_min3, r_max3, r_fa, r_iaS, r_iaA, r_ex2a, r_ex2b, r_ex3a, r_ex3b, r_ex3c, r_nc, r_keepE, Nat.zero_add, Nat.add_zero, Nat.mul_one, Int.toNat_natCast, toNat_sub1, toNat_add1, decide_true, decide_false, Bool.not_true, Bool.not_false, if_true, if_false, Bool.false_eq_true, reduceCtorEq, hlt', r_ld hc, hrl]
  refine ⟨fun t8 t9 t29 wq => ∃ j : Nat, j ≤ b' ∧ t29 = .int .i64 j ∧ Kp w2 wq ∧ CellsAt w2.heap.size wq t8 ((pl b' (i * b' + j)).filter (addB c h)) ∧ CellsAt w2.heap.size wq t9 ((pl b' (i * b' + j)).filter (takeB a b' h)) ∧ Apart t8 t9, fun _ _ t29 _ => b' - (intOf t29).toNat,
    ⟨0, by omega, rfl, hkr, h8, h9, hap⟩, ?_⟩
  rintro _ t8 t9 _ wq ⟨j, hj, rfl, hk2q, h8, h9, hap⟩
  by_cases hjl : j < b'
  case neg =>
    have hjl' : ¬ (j : Int) < (b' : Int) := by omega
    have e : j = b' := by omega
    subst e
    have em : i * j + j = (i + 1) * j := by rw [Nat.add_mul, Nat.one_mul]
    rw [em] at h8 h9
    simp (disch := omega) only [r_ln, r_pick, r_pickT, r_pickF, r_condT, r_condF, r_gdTT, r_gdFF, r_gdTF, r_gdFT, r_gqTT, r_gqFF, r_gqTF, r_gqFT, r_not, r_lss, r_leq, r_gtr, r_geq, r_eql, r_neq, r_add, r_sub, r_min2, r_max2, r_min3, r_max3, r_fa, r_iaS, r_iaA, r_ex2a, r_ex2b, r_ex3a, r_ex3b, r_ex3c, r_nc, r_keepE, Nat.zero_add, Nat.add_zero, Nat.mul_one, Int.toNat_natCast, toNat_sub1, toNat_add1, decide_true, decide_false, Bool.not_true, Bool.not_false, if_true, if_false, Bool.false_eq_true, reduceCtorEq, hjl']
    exact ⟨⟨i + 1, by omega, by go_num, hk2q, h8, h9, hap⟩, by simp only [intOf]; omega⟩
  have hjl' : (j : Int) < (b' : Int) := by omega
  obtain ⟨rb, ro, _, e2, hx0⟩ := hrow.at (j := j) (by omega)
  cases e2
  have hx := cell_later hk2q hx0
  have hbq := block_below hb (Kp.trans k2 hk2q)
  obtain ⟨c0, c1, c2⟩ := box3 hbq
  have hxe : hat h i j = (h.getD i []).getD j 0 := rfl
  have hpl := place_lt hlt hjl
  have hf8 := List.length_filter_le (addB c h) (pl b' (i * b' + j))
  have hf9 := List.length_filter_le (takeB a b' h) (pl b' (i * b' + j))
  rw [pl_length] at hf8 hf9
  simp (disch := omega) only [r_ln, r_pick, r_pickT, r_pickF, r_condT, r_condF, r_gdTT, r_gdFF, r_gdTF, r_gdFT, r_gqTT, r_gqFF, r_gqTF, r_gqFT, r_not, r_lss, r_leq, r_gtr, r_geq, r_eql, r_neq, r_add, r_sub, r_min2, r_max2, r_min3, r_max3, r_fa, r_iaS, r_iaA, r_ex2a, r_ex2b, r_ex3a, r_ex3b, r_ex3c, r_nc, r_keepE, Nat.zero_add, Nat.add_zero, Nat.mul_one, Int.toNat_natCast, toNat_sub1, toNat_add1, decide_true, decide_false, Bool.not_true, Bool.not_false, if_true, if_false, Bool.false_eq_true, reduceCtorEq, hjl', r_ld hx]
  -- neighbours
  have left0 : 0 < j → w2.cell? ⟨rb, ro + (j - 1), none⟩ = some (.int .i64 (hat h i (j - 1))) := fun h0 => by
    obtain ⟨_, _, _, e3, hy⟩ := hrow.at (j := j - 1) (by omega)
    cases e3; exact hy
  have right0 : j + 1 < b' → w2.cell? ⟨rb, ro + (j + 1), none⟩ = some (.int .i64 (hat h i (j + 1))) := fun h0 => by
    obtain ⟨_, _, _, e3, hy⟩ := hrow.at (j := j + 1) (by omega)
    cases e3; exact hy
  have up0 : 0 < i → ∃ ub uo uc, w2.cell? ⟨b1, o1 + (i - 1), none⟩ = some (.slice (some ⟨ub, uo, none⟩) b' uc) ∧ w2.cell? ⟨ub, uo + j, none⟩ = some (.int .i64 (hat h (i - 1) j)) := fun h0 => by
    obtain ⟨_, _, _, rv2, e3, hu, hru⟩ := hrr.row (i := i - 1) (by omega)
    cases e3
    have hl2 := hs.2 (i - 1) (by omega)
    obtain ⟨ub, uo, uc, e4, hy⟩ := hru.at (j := j) (by omega)
    rw [hl2] at e4
    exact ⟨ub, uo, uc, by rw [hu, e4], hy⟩
  have down0 : i + 1 < a → ∃ ub uo uc, w2.cell? ⟨b1, o1 + (i + 1), none⟩ = some (.slice (some ⟨ub, uo, none⟩) b' uc) ∧ w2.cell? ⟨ub, uo + j, none⟩ = some (.int .i64 (hat h (i + 1) j)) := fun h0 => by
    obtain ⟨_, _, _, rv2, e3, hu, hru⟩ := hrr.row (i := i + 1) (by omega)
    cases e3
    have hl2 := hs.2 (i + 1) (by omega)
    obtain ⟨ub, uo, uc, e4, hy⟩ := hru.at (j := j) (by omega)
    rw [hl2] at e4
    exact ⟨ub, uo, uc, by rw [hu, e4], hy⟩
  have left := fun h0 => cell_later hk2q (left0 h0)
  have up : 0 < i → ∃ ub uo uc, wq.cell? ⟨b1, o1 + (i - 1), none⟩ = some (.slice (some ⟨ub, uo, none⟩) b' uc) ∧ wq.cell? ⟨ub, uo + j, none⟩ = some (.int .i64 (hat h (i - 1) j)) := fun h0 =>
    let ⟨ub, uo, uc, x1, x2⟩ := up0 h0; ⟨ub, uo, uc, cell_later hk2q x1, cell_later hk2q x2⟩
  refine r_join1 (fun t w' => t = .bool (addB c h (i, j)) ∧ wq = w') ?_ ?_
  rotate_left
  · intro kk hkk
    have fin : ∀ x : Bool, (x = true ↔ hat h i j < c ∧ (j = 0 ∨ hat h i j < hat h i (j - 1)) ∧ (i = 0 ∨ hat h i j < hat h (i - 1) j)) → kk (.bool x) wq := fun x hx => hkk _ _ ⟨congrArg Value.bool (by unfold addB; rw [← decide_eq_decide.2 hx]; cases x <;> rfl), rfl⟩
    by_cases q1 : (h.getD i []).getD j 0 < c
    case neg => simp (disch := omega) only [r_ln, r_pick, r_pickT, r_pickF, r_condT, r_condF, r_gdTT, r_gdFF, r_gdTF, r_gdFT, r_gqTT, r_gqFF, r_gqTF, r_gqFT, r_not, r_lss, r_leq, r_gtr, r_geq, r_eql, r_neq, r_add, r_sub, r_min2, r_max2, r_min3, r_max3, r_fa, r_iaS, r_iaA, r_ex2a, r_ex2b, r_ex3a, r_ex3b, r_ex3c, r_nc, r_keepE, Nat.zero_add, Nat.add_zero, Nat.mul_one, Int.toNat_natCast, toNat_sub1, toNat_add1, decide_true, decide_false, Bool.not_true, Bool.not_false, if_true, if_false, Bool.false_eq_true, reduceCtorEq, r_ld c2, q1]; exact fin false (by simp only [Bool.false_eq_true, false_iff]; omega)
    have upc : ∀ (hleft : j = 0 ∨ hat h i j < hat h i (j - 1)), (i = 0 ∨ 0 < i) := fun _ => by omega
    by_cases hj0 : j = 0
    · have hj0' : (j : Int) = 0 := by omega
      by_cases hi0 : i = 0
      · have hi0' : (i : Int) = 0 := by omega
        simp (disch := omega) only [r_ln, r_pick, r_pickT, r_pickF, r_condT, r_condF, r_gdTT, r_gdFF, r_gdTF, r_gdFT, r_gqTT, r_gqFF, r_gqTF, r_gqFT, r_not, r_lss, r_leq, r_gtr, r_geq, r_eql, r_neq, r_add, r_sub, r_min2, r_max2, r_min3, r_max3, r_fa, r_iaS, r_iaA, r_ex2a, r_ex2b, r_ex3a, r_ex3b, r_ex3c, r_nc, r_keepE, Nat.zero_add, Nat.add_zero, Nat.mul_one, Int.toNat_natCast, toNat_sub1, toNat_add1, decide_true, decide_false, Bool.not_true, Bool.not_false, if_true, if_false, Bool.false_eq_true, reduceCtorEq, r_ld c2, q1, decide_eq_true hj0', decide_eq_true hi0']
        exact fin true ⟨fun _ => ⟨by omega, .inl hj0, .inl hi0⟩, fun _ => rfl⟩
      · have hi0' : ¬ (i : Int) = 0 := by omega
        obtain ⟨ub, uo, uc, u1, u2⟩ := up (by omega)
        by_cases q3 : (h.getD i []).getD j 0 < hat h (i - 1) j
        · simp (disch := omega) only [r_ln, r_pick, r_pickT, r_pickF, r_condT, r_condF, r_gdTT, r_gdFF, r_gdTF, r_gdFT, r_gqTT, r_gqFF, r_gqTF, r_gqFT, r_not, r_lss, r_leq, r_gtr, r_geq, r_eql, r_neq, r_add, r_sub, r_min2, r_max2, r_min3, r_max3, r_fa, r_iaS, r_iaA, r_ex2a, r_ex2b, r_ex3a, r_ex3b, r_ex3c, r_nc, r_keepE, Nat.zero_add, Nat.add_zero, Nat.mul_one, Int.toNat_natCast, toNat_sub1, toNat_add1, decide_true, decide_false, Bool.not_true, Bool.not_false, if_true, if_false, Bool.false_eq_true, reduceCtorEq, r_ld c2, q1, decide_eq_true hj0', hi0', r_ld u1, r_ld u2, q3]
          exact fin true ⟨fun _ => ⟨by omega, .inl hj0, .inr (by omega)⟩, fun _ => rfl⟩
        · simp (disch := omega) only [r_ln, r_pick, r_pickT, r_pickF, r_condT, r_condF, r_gdTT, r_gdFF, r_gdTF, r_gdFT, r_gqTT, r_gqFF, r_gqTF, r_gqFT, r_not, r_lss, r_leq, r_gtr, r_geq, r_eql, r_neq, r_add, r_sub, r_min2, r_max2, r_min3, r_max3, r_fa, r_iaS, r_iaA, r_ex2a, r_ex2b, r_ex3a, r_ex3b, r_ex3c, r_nc, r_keepE, Nat.zero_add, Nat.add_zero, Nat.mul_one, Int.toNat_natCast, toNat_sub1, toNat_add1, decide_true, decide_false, Bool.not_true, Bool.not_false, if_true, if_false, Bool.false_eq_true, reduceCtorEq, r_ld c2, q1, decide_eq_true hj0', hi0', r_ld u1, r_ld u2, q3]
          exact fin false (by simp only [Bool.false_eq_true, false_iff]; omega)
    · have hj0' : ¬ (j : Int) = 0 := by omega
      have hlc := left (by omega)
      by_cases q2 : (h.getD i []).getD j 0 < hat h i (j - 1)
      case neg =>
        simp (disch := omega) only [r_ln, r_pick, r_pickT, r_pickF, r_condT, r_condF, r_gdTT, r_gdFF, r_gdTF, r_gdFT, r_gqTT, r_gqFF, r_gqTF, r_gqFT, r_not, r_lss, r_leq, r_gtr, r_geq, r_eql, r_neq, r_add, r_sub, r_min2, r_max2, r_min3, r_max3, r_fa, r_iaS, r_iaA, r_ex2a, r_ex2b, r_ex3a, r_ex3b, r_ex3c, r_nc, r_keepE, Nat.zero_add, Nat.add_zero, Nat.mul_one, Int.toNat_natCast, toNat_sub1, toNat_add1, decide_true, decide_false, Bool.not_true, Bool.not_false, if_true, if_false, Bool.false_eq_true, reduceCtorEq, r_ld c2, q1, hj0', r_ld hlc, q2]
        exact fin false (by simp only [Bool.false_eq_true, false_iff]; omega)
      by_cases hi0 : i = 0
      · have hi0' : (i : Int) = 0 := by omega
        simp (disch := omega) only [r_ln, r_pick, r_pickT, r_pickF, r_condT, r_condF, r_gdTT, r_gdFF, r_gdTF, r_gdFT, r_gqTT, r_gqFF, r_gqTF, r_gqFT, r_not, r_lss, r_leq, r_gtr, r_geq, r_eql, r_neq, r_add, r_sub, r_min2, r_max2, r_min3, r_max3, r_fa, r_iaS, r_iaA, r_ex2a, r_ex2b, r_ex3a, r_ex3b, r_ex3c, r_nc, r_keepE, Nat.zero_add, Nat.add_zero, Nat.mul_one, Int.toNat_natCast, toNat_sub1, toNat_add1, decide_true, decide_false, Bool.not_true, Bool.not_false, if_true, if_false, Bool.false_eq_true, reduceCtorEq, r_ld c2, q1, hj0', r_ld hlc, q2, decide_eq_true hi0']
        exact fin true ⟨fun _ => ⟨by omega, .inr (by omega), .inl hi0⟩, fun _ => rfl⟩
      · have hi0' : ¬ (i : Int) = 0 := by omega
        obtain ⟨ub, uo, uc, u1, u2⟩ := up (by omega)
        by_cases q3 : (h.getD i []).getD j 0 < hat h (i - 1) j
        · simp (disch := omega) only [r_ln, r_pick, r_pickT, r_pickF, r_condT, r_condF, r_gdTT, r_gdFF, r_gdTF, r_gdFT, r_gqTT, r_gqFF, r_gqTF, r_gqFT, r_not, r_lss, r_leq, r_gtr, r_geq, r_eql, r_neq, r_add, r_sub, r_min2, r_max2, r_min3, r_max3, r_fa, r_iaS, r_iaA, r_ex2a, r_ex2b, r_ex3a, r_ex3b, r_ex3c, r_nc, r_keepE, Nat.zero_add, Nat.add_zero, Nat.mul_one, Int.toNat_natCast, toNat_sub1, toNat_add1, decide_true, decide_false, Bool.not_true, Bool.not_false, if_true, if_false, Bool.false_eq_true, reduceCtorEq, r_ld c2, q1, hj0', r_ld hlc, q2, hi0', r_ld u1, r_ld u2, q3]
          exact fin true (by simp only [true_iff]; omega)
        · simp (disch := omega) only [r_ln, r_pick, r_pickT, r_pickF, r_condT, r_condF, r_gdTT, r_gdFF, r_gdTF, r_gdFT, r_gqTT, r_gqFF, r_gqTF, r_gqFT, r_not, r_lss, r_leq, r_gtr, r_geq, r_eql, r_neq, r_add, r_sub, r_min2, r_max2, r_min3, r_max3, r_fa, r_iaS, r_iaA, r_ex2a, r_ex2b, r_ex3a, r_ex3b, r_ex3c, r_nc, r_keepE, Nat.zero_add, Nat.add_zero, Nat.mul_one, Int.toNat_natCast, toNat_sub1, toNat_add1, decide_true, decide_false, Bool.not_true, Bool.not_false, if_true, if_false, Bool.false_eq_true, reduceCtorEq, r_ld c2, q1, hj0', r_ld hlc, q2, hi0', r_ld u1, r_ld u2, q3]
          exact fin false (by simp only [Bool.false_eq_true, false_iff]; omega)
  rintro _ _ ⟨rfl, rfl⟩
  have hpush8 := filter_push (f := addB c h) (P := pl b' (i * b' + j)) (x := (i, j))
  have hpush9 := filter_push (f := takeB a b' h) (P := pl b' (i * b' + j)) (x := (i, j))
  rw [← pl_succ hjl] at hpush8 hpush9
  refine r_join1 (fun t8 w' => Chg (fun k => w2.heap.size ≤ k) wq w' ∧ CellsAt w2.heap.size w' t8 ((pl b' (i * b' + j + 1)).filter (addB c h)) ∧ CellsAt w2.heap.size w' t9 ((pl b' (i * b' + j)).filter (takeB a b' h)) ∧ Apart t8 t9) ?_ ?_
  rotate_left
  · intro kk hkk
    by_cases hadd : addB c h (i, j) = true
    · rw [if_pos hadd] at hpush8
      rw [hadd, r_condT, bd35]
      refine r_pushCell h8 h9 hap (by omega) (by have := hk2q.size; omega) fun v' w' g1 g2 g3 g4 => ?_
      exact hkk _ _ ⟨g4, by rw [hpush8]; exact g1, g2, g3⟩
    · have hadd' : addB c h (i, j) = false := by simpa using hadd
      rw [if_neg hadd] at hpush8
      rw [hadd', r_condF]
      exact hkk _ _ ⟨Chg.refl _ _, by rw [hpush8]; exact h8, h9, hap⟩
  rintro t8b wp ⟨hcp, h8b, h9b, hapb⟩
  have hk2p : Kp w2 wp := Kp.of_chg hk2q hcp fun k h => h
  have hbp := hcp.at hbq (by have := block_lt (block_below hb k2); omega)
  obtain ⟨c0, c1, c2⟩ := box3 hbp
  have right := fun h0 => cell_later hk2p (right0 h0)
  have down : i + 1 < a → ∃ ub uo uc, wp.cell? ⟨b1, o1 + (i + 1), none⟩ = some (.slice (some ⟨ub, uo, none⟩) b' uc) ∧ wp.cell? ⟨ub, uo + j, none⟩ = some (.int .i64 (hat h (i + 1) j)) := fun h0 =>
    let ⟨ub, uo, uc, x1, x2⟩ := down0 h0; ⟨ub, uo, uc, cell_later hk2p x1, cell_later hk2p x2⟩
  refine r_join1 (fun t w' => t = .bool (takeB a b' h (i, j)) ∧ wp = w') ?_ ?_
  rotate_left
  · intro kk hkk
    have fin : ∀ x : Bool, (x = true ↔ 0 < hat h i j ∧ (j + 1 = b' ∨ hat h i (j + 1) < hat h i j) ∧ (i + 1 = a ∨ hat h (i + 1) j < hat h i j)) → kk (.bool x) wp := fun x hx => hkk _ _ ⟨congrArg Value.bool (by unfold takeB; rw [← decide_eq_decide.2 hx]; cases x <;> rfl), rfl⟩
    by_cases q1 : 0 < (h.getD i []).getD j 0
    case neg => simp (disch := omega) only [r_ln, r_pick, r_pickT, r_pickF, r_condT, r_condF, r_gdTT, r_gdFF, r_gdTF, r_gdFT, r_gqTT, r_gqFF, r_gqTF, r_gqFT, r_not, r_lss, r_leq, r_gtr, r_geq, r_eql, r_neq, r_add, r_sub, r_min2, r_max2, r_min3, r_max3, r_fa, r_iaS, r_iaA, r_ex2a, r_ex2b, r_ex3a, r_ex3b, r_ex3c, r_nc, r_keepE, Nat.zero_add, Nat.add_zero, Nat.mul_one, Int.toNat_natCast, toNat_sub1, toNat_add1, decide_true, decide_false, Bool.not_true, Bool.not_false, if_true, if_false, Bool.false_eq_true, reduceCtorEq, q1]; exact fin false (by simp only [Bool.false_eq_true, false_iff]; omega)
    by_cases hj0 : j + 1 = b'
    · have hj0' : (j : Int) = (b' : Int) - 1 := by omega
      by_cases hi0 : i + 1 = a
      · have hi0' : (i : Int) = (a : Int) - 1 := by omega
        simp (disch := omega) only [r_ln, r_pick, r_pickT, r_pickF, r_condT, r_condF, r_gdTT, r_gdFF, r_gdTF, r_gdFT, r_gqTT, r_gqFF, r_gqTF, r_gqFT, r_not, r_lss, r_leq, r_gtr, r_geq, r_eql, r_neq, r_add, r_sub, r_min2, r_max2, r_min3, r_max3, r_fa, r_iaS, r_iaA, r_ex2a, r_ex2b, r_ex3a, r_ex3b, r_ex3c, r_nc, r_keepE, Nat.zero_add, Nat.add_zero, Nat.mul_one, Int.toNat_natCast, toNat_sub1, toNat_add1, decide_true, decide_false, Bool.not_true, Bool.not_false, if_true, if_false, Bool.false_eq_true, reduceCtorEq, r_ld c1, r_ld c0, q1, decide_eq_true hj0', decide_eq_true hi0']
        exact fin true (by simp only [true_iff]; omega)
      · have hi0' : ¬ (i : Int) = (a : Int) - 1 := by omega
        obtain ⟨ub, uo, uc, u1, u2⟩ := down (by omega)
        by_cases q3 : hat h (i + 1) j < (h.getD i []).getD j 0
        · simp (disch := omega) only [r_ln, r_pick, r_pickT, r_pickF, r_condT, r_condF, r_gdTT, r_gdFF, r_gdTF, r_gdFT, r_gqTT, r_gqFF, r_gqTF, r_gqFT, r_not, r_lss, r_leq, r_gtr, r_geq, r_eql, r_neq, r_add, r_sub, r_min2, r_max2, r_min3, r_max3, r_fa, r_iaS, r_iaA, r_ex2a, r_ex2b, r_ex3a, r_ex3b, r_ex3c, r_nc, r_keepE, Nat.zero_add, Nat.add_zero, Nat.mul_one, Int.toNat_natCast, toNat_sub1, toNat_add1, decide_true, decide_false, Bool.not_true, Bool.not_false, if_true, if_false, Bool.false_eq_true, reduceCtorEq, r_ld c1, r_ld c0, q1, decide_eq_true hj0', hi0', r_ld u1, r_ld u2, q3]
          exact fin true (by simp only [true_iff]; omega)
        · simp (disch := omega) only [r_ln, r_pick, r_pickT, r_pickF, r_condT, r_condF, r_gdTT, r_gdFF, r_gdTF, r_gdFT, r_gqTT, r_gqFF, r_gqTF, r_gqFT, r_not, r_lss, r_leq, r_gtr, r_geq, r_eql, r_neq, r_add, r_sub, r_min2, r_max2, r_min3, r_max3, r_fa, r_iaS, r_iaA, r_ex2a, r_ex2b, r_ex3a, r_ex3b, r_ex3c, r_nc, r_keepE, Nat.zero_add, Nat.add_zero, Nat.mul_one, Int.toNat_natCast, toNat_sub1, toNat_add1, decide_true, decide_false, Bool.not_true, Bool.not_false, if_true, if_false, Bool.false_eq_true, reduceCtorEq, r_ld c1, r_ld c0, q1, decide_eq_true hj0', hi0', r_ld u1, r_ld u2, q3]
          exact fin false (by simp only [Bool.false_eq_true, false_iff]; omega)
    · have hj0' : ¬ (j : Int) = (b' : Int) - 1 := by omega
      have hlc := right (by omega)
      by_cases q2 : hat h i (j + 1) < (h.getD i []).getD j 0
      case neg =>
        simp (disch := omega) only [r_ln, r_pick, r_pickT, r_pickF, r_condT, r_condF, r_gdTT, r_gdFF, r_gdTF, r_gdFT, r_gqTT, r_gqFF, r_gqTF, r_gqFT, r_not, r_lss, r_leq, r_gtr, r_geq, r_eql, r_neq, r_add, r_sub, r_min2, r_max2, r_min3, r_max3, r_fa, r_iaS, r_iaA, r_ex2a, r_ex2b, r_ex3a, r_ex3b, r_ex3c, r_nc, r_keepE, Nat.zero_add, Nat.add_zero, Nat.mul_one, Int.toNat_natCast, toNat_sub1, toNat_add1, decide_true, decide_false, Bool.not_true, Bool.not_false, if_true, if_false, Bool.false_eq_true, reduceCtorEq, r_ld c1, q1, hj0', r_ld hlc, q2]
        exact fin false (by simp only [Bool.false_eq_true, false_iff]; omega)
      by_cases hi0 : i + 1 = a
      · have hi0' : (i : Int) = (a : Int) - 1 := by omega
        simp (disch := omega) only [r_ln, r_pick, r_pickT, r_pickF, r_condT, r_condF, r_gdTT, r_gdFF, r_gdTF, r_gdFT, r_gqTT, r_gqFF, r_gqTF, r_gqFT, r_not, r_lss, r_leq, r_gtr, r_geq, r_eql, r_neq, r_add, r_sub, r_min2, r_max2, r_min3, r_max3, r_fa, r_iaS, r_iaA, r_ex2a, r_ex2b, r_ex3a, r_ex3b, r_ex3c, r_nc, r_keepE, Nat.zero_add, Nat.add_zero, Nat.mul_one, Int.toNat_natCast, toNat_sub1, toNat_add1, decide_true, decide_false, Bool.not_true, Bool.not_false, if_true, if_false, Bool.false_eq_true, reduceCtorEq, r_ld c1, r_ld c0, q1, hj0', r_ld hlc, q2, decide_eq_true hi0']
        exact fin true (by simp only [true_iff]; omega)
      · have hi0' : ¬ (i : Int) = (a : Int) - 1 := by omega
        obtain ⟨ub, uo, uc, u1, u2⟩ := down (by omega)
        by_cases q3 : hat h (i + 1) j < (h.getD i []).getD j 0
        · simp (disch := omega) only [r_ln, r_pick, r_pickT, r_pickF, r_condT, r_condF, r_gdTT, r_gdFF, r_gdTF, r_gdFT, r_gqTT, r_gqFF, r_gqTF, r_gqFT, r_not, r_lss, r_leq, r_gtr, r_geq, r_eql, r_neq, r_add, r_sub, r_min2, r_max2, r_min3, r_max3, r_fa, r_iaS, r_iaA, r_ex2a, r_ex2b, r_ex3a, r_ex3b, r_ex3c, r_nc, r_keepE, Nat.zero_add, Nat.add_zero, Nat.mul_one, Int.toNat_natCast, toNat_sub1, toNat_add1, decide_true, decide_false, Bool.not_true, Bool.not_false, if_true, if_false, Bool.false_eq_true, reduceCtorEq, r_ld c1, r_ld c0, q1, hj0', r_ld hlc, q2, hi0', r_ld u1, r_ld u2, q3]
          exact fin true (by simp only [true_iff]; omega)
        · simp (disch := omega) only [r_ln, r_pick, r_pickT, r_pickF, r_condT, r_condF, r_gdTT, r_gdFF, r_gdTF, r_gdFT, r_gqTT, r_gqFF, r_gqTF, r_gqFT, r_not, r_lss, r_leq, r_gtr, r_geq, r_eql, r_neq, r_add, r_sub, r_min2, r_max2, r_min3, r_max3, r_fa, r_iaS, r_iaA, r_ex2a, r_ex2b, r_ex3a, r_ex3b, r_ex3c, r_nc, r_keepE, Nat.zero_add, Nat.add_zero, Nat.mul_one, Int.toNat_natCast, toNat_sub1, toNat_add1, decide_true, decide_false, Bool.not_true, Bool.not_false, if_true, if_false, Bool.false_eq_true, reduceCtorEq, r_ld c1, r_ld c0, q1, hj0', r_ld hlc, q2, hi0', r_ld u1, r_ld u2, q3]
          exact fin false (by simp only [Bool.false_eq_true, false_iff]; omega)
  rintro _ _ ⟨rfl, rfl⟩
  have hps := hk2p.size
  refine r_join1 (fun t9 w' => Chg (fun k => w2.heap.size ≤ k) wp w' ∧ CellsAt w2.heap.size w' t8b ((pl b' (i * b' + j + 1)).filter (addB c h)) ∧ CellsAt w2.heap.size w' t9 ((pl b' (i * b' + j + 1)).filter (takeB a b' h)) ∧ Apart t8b t9) ?_ ?_
  rotate_left
  · intro kk hkk
    by_cases htk : takeB a b' h (i, j) = true
    · rw [if_pos htk] at hpush9
      rw [htk, r_condT, bd35]
      refine r_pushCell h9b h8b hapb.symm (by omega) (by omega) fun v' w' g1 g2 g3 g4 => ?_
      exact hkk _ _ ⟨g4, g2, by rw [hpush9]; exact g1, g3.symm⟩
    · have htk' : takeB a b' h (i, j) = false := by simpa using htk
      rw [if_neg htk] at hpush9
      rw [htk', r_condF]
      exact hkk _ _ ⟨Chg.refl _ _, h8b, by rw [hpush9]; exact h9b, hapb⟩
  rintro t9b wz ⟨hcz, h8z, h9z, hapz⟩
  have hkqz : Chg (fun k => w2.heap.size ≤ k) wq wz := hcp.trans hcz
  have hk2z : Kp w2 wz := Kp.of_chg hk2q hkqz fun k h => h
  try simp (disch := omega) only [r_ln, r_pick, r_pickT, r_pickF, r_condT, r_condF, r_gdTT, r_gdFF, r_gdTF, r_gdFT, r_gqTT, r_gqFF, r_gqTF, r_gqFT, r_not, r_lss, r_leq, r_gtr, r_geq, r_eql, r_neq, r_add, r_sub, r_min2, r_max2, r_min3, r_max3, r_fa, r_iaS, r_iaA, r_ex2a, r_ex2b, r_ex3a, r_ex3b, r_ex3c, r_nc, r_keepE, Nat.zero_add, Nat.add_zero, Nat.mul_one, Int.toNat_natCast, toNat_sub1, toNat_add1, decide_true, decide_false, Bool.not_true, Bool.not_false, if_true, if_false, Bool.false_eq_true, reduceCtorEq]
  exact ⟨⟨j + 1, by omega, by go_num, hk2z, h8z, h9z, hapz⟩, by simp only [intOf]; omega⟩

end Go.Proofs.Ytaephdjmpmbfpaa
