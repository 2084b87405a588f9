/- Texts of my own, merged by program: P1 P2 Alive. -/
import Derived.Test.YtaephdjmpmbfpaaM09
import Derived.Test.YtaephdjmpmbfpaaM10
set_option linter.all false
/- Contract: Heap of the program. -/
namespace Go.Proofs.Ytaephdjmpmbfpaa
open Go.Lf Go.RowKit Go.Hp

theorem BX.of_chg {X : Nat → Prop} {w w' : World} (h : Chg X w w') : BX X w w' := ⟨h.os, h.tape, h.output, h.size, h.block⟩

/-- v reads as rows; v and each row lie in blocks of their own, from base on. -/
structure FRows (base : Nat) (w : World) (v : Value) (bs cs : Nat → Nat) (rows : List (List Int)) : Prop where
  outer : w.ownsRow base 36 1 v rows.length ((List.range rows.length).map fun i => .slice (some ⟨bs i, 0, none⟩) (rows.getD i []).length (cs i))
  row : ∀ i, i < rows.length → base ≤ bs i ∧ ∃ cur, w.heap[bs i]? = some (.cells cur 3 (0, 0)) ∧ ∀ j, j < (rows.getD i []).length → cur[j]? = some (.int .i64 ((rows.getD i []).getD j 0))
  apart : ∀ i k, i < rows.length → k < rows.length → i ≠ k → bs i ≠ bs k

theorem FRows.nil (base : Nat) (w : World) (bs cs : Nat → Nat) : FRows base w nilS bs cs [] := ⟨World.ownsRow_nil _ _ _ _, (fun _ h => absurd h (by simp)), (fun _ _ h => absurd h (by simp))⟩

theorem FRows.chg {S : Nat → Prop} {base : Nat} {w w' : World} {v : Value} {bs cs : Nat → Nat} {rows : List (List Int)} (h : FRows base w v bs cs rows) (hc : Chg S w w') (hs : ∀ k, base ≤ k → ¬ S k) : FRows base w' v bs cs rows :=
  ⟨owns_chg h.outer hc fun k hk => hs k (owned_block h.outer hk), fun i hi => let ⟨h1, cur, h2, h3⟩ := h.row i hi; ⟨h1, cur, hc.at h2 (hs _ h1), h3⟩, h.apart⟩

theorem FRows.chg' {S : Nat → Prop} {base : Nat} {w w' : World} {v : Value} {bs cs : Nat → Nat} {rows : List (List Int)} (h : FRows base w v bs cs rows) (hc : Chg S w w') (hs : ∀ k, S k → k < base) : FRows base w' v bs cs rows :=
  h.chg hc fun k hk hS => by have := hs k hS; omega

theorem FRows.kp {base : Nat} {w w' : World} {v : Value} {bs cs : Nat → Nat} {rows : List (List Int)} (h : FRows base w v bs cs rows) (hc : Kp w w') : FRows base w' v bs cs rows :=
  h.chg (S := fun _ => False) (Chg.of_kp hc) fun _ _ h => h

theorem FRows.len {base : Nat} {w : World} {v : Value} {bs cs : Nat → Nat} {rows : List (List Int)} (h : FRows base w v bs cs rows) : ∃ a cap, v = .slice a rows.length cap := owned_len h.outer

theorem FRows.new {base : Nat} {w w0 : World} {v : Value} {bs cs : Nat → Nat} {rows : List (List Int)} (h : FRows base w v bs cs rows) (h0 : 0 < rows.length) (hb : w0.heap.size ≤ base) (hs : rows.length ≤ 1000000 ∧ ∀ i, i < rows.length → (rows.getD i []).length ≤ 1000000) : NewRows w0 w v rows := by
  obtain ⟨g, hg, ho⟩ := ownRows_of h.outer h0 (fun i hi => (h.row i hi).2) h.apart ⟨by omega, fun i hi => by have := hs.2 i hi; omega⟩
  exact ⟨g, bs, ho, by omega, fun i hi => by have := (h.row i hi).1; omega⟩

theorem getD_append_left' {rows : List (List Int)} {row : List Int} {i : Nat} (h : i < rows.length) : (rows ++ [row]).getD i [] = rows.getD i [] := by
  simp only [List.getD_eq_getElem?_getD]; rw [List.getElem?_append_left h]
theorem getD_append_last {rows : List (List Int)} {row : List Int} : (rows ++ [row]).getD rows.length [] = row := by
  simp [List.getD_eq_getElem?_getD]

set_option maxRecDepth 100000 in
/-- append(v, r) of a new row. -/
theorem r_apF {base s b c : Nat} {ty : TypeId} {v : Value} {bs cs : Nat → Nat} {rows : List (List Int)} {row : List Int} {cur : Array Value} {fr : Nat × Nat} {w : World} {K : Value → World → Prop} (h : FRows base w v bs cs rows)
    (hs : w.heap[s]? = some (.cells #[.slice (some ⟨b, 0, none⟩) row.length c] 36 fr)) (hb : base ≤ b) (hrow : w.heap[b]? = some (.cells cur 3 (0, 0))) (hread : ∀ j, j < row.length → cur[j]? = some (.int .i64 (row.getD j 0)))
    (hne : ∀ i, i < rows.length → bs i ≠ b) (hn : rows.length + 1 ≤ 1000000) (hbase : base ≤ w.heap.size)
    (hk : ∀ v' w', FRows base w' v' (fun i => if i < rows.length then bs i else b) (fun i => if i < rows.length then cs i else c) (rows ++ [row]) → w.grownBy w' v.ownBlock → K v' w') :
    semW Try.prog (apS [26, 26] ty [v, .slice (some ⟨s, 0, none⟩) 1 1]) w K := by
  refine r_ap (m := 1) (news := [.slice (some ⟨b, 0, none⟩) row.length c]) slt26 h.outer rfl (fun j u hj => ?_) (by intro u hu; simp at hu; subst hu; rfl) (by omega) (by omega) hbase fun v' w' ho hg _ => ?_
  · cases j with
    | zero => simp at hj; subst hj; rw [r_addr, cell_row hs]; rfl
    | succ j => simp at hj
  have hold : ∀ k (o : Array Value), w.heap[k]? = some (Obj.cells o 3 (0, 0)) → w'.heap[k]? = some (Obj.cells o 3 (0, 0)) := fun k o hko => by
    rw [hg.block k (block_lt hko) fun e => ?_]
    · exact hko
    · rcases h.outer.2 with ⟨rfl, _⟩ | ⟨g, cap, cur, rfl, _, hgg, _⟩
      · simp [Value.ownBlock] at e
      · simp [Value.ownBlock] at e
        subst e
        rw [hgg] at hko
        simp at hko
  refine hk v' w' ⟨?_, fun i hi => ?_, fun i k hi hk' hne' => ?_⟩ hg
  · rw [List.length_append, List.length_singleton, List.range_succ, List.map_append]
    have e1 : ((List.range rows.length).map fun i => Value.slice (some ⟨if i < rows.length then bs i else b, 0, none⟩) ((rows ++ [row]).getD i []).length (if i < rows.length then cs i else c)) = (List.range rows.length).map fun i => .slice (some ⟨bs i, 0, none⟩) (rows.getD i []).length (cs i) :=
      List.map_congr_left fun k hk' => by
        have hk2 : k < rows.length := by simpa using hk'
        rw [if_pos hk2, if_pos hk2, getD_append_left' hk2]
    rw [e1]
    simpa [getD_append_last] using ho
  · by_cases hir : i < rows.length
    · obtain ⟨h1, cur, h2, h3⟩ := h.row i hir
      rw [if_pos hir, getD_append_left' hir]
      exact ⟨h1, cur, hold _ _ h2, h3⟩
    · have e : i = rows.length := by simp at hi; omega
      subst e
      rw [if_neg hir, getD_append_last]
      exact ⟨hb, cur, hold _ _ hrow, hread⟩
  · have hi' : i < rows.length + 1 := by simpa using hi
    have hk2 : k < rows.length + 1 := by simpa using hk'
    by_cases hir : i < rows.length <;> by_cases hkr : k < rows.length
    · rw [if_pos hir, if_pos hkr]; exact h.apart i k hir hkr hne'
    · rw [if_pos hir, if_neg hkr]; exact hne i hir
    · rw [if_neg hir, if_pos hkr]; exact (hne k hkr).symm
    · omega

theorem bs36_0 (w : World) (K : Value → World → Prop) : bsW Try.prog 36 0 [] w K = K (.slice (some ⟨w.heap.size, 0, none⟩) 0 0) (w.alloc (.cells #[] 3)) := by kernel_rfl
theorem eq36_nil (a : Addr) (n c : Nat) (w : World) (K : Value → Prop) : binQ Try.prog w .eql 36 true (.slice (some a) n c) (.slice none 0 0) K = genQ Try.prog w (semBin .eql 36 true (.slice (some a) n c) (.slice none 0 0)) K := by kernel_rfl
theorem r_eq36 {a : Addr} {n c : Nat} {w : World} {K : Value → Prop} (h : K (.bool false)) : binQ Try.prog w .eql 36 true (.slice (some a) n c) (.slice none 0 0) K := by
  rw [eq36_nil]
  exact ⟨.bool false, fun _ _ => by kernel_rfl, h⟩

set_option maxRecDepth 100000 in
theorem clone_calls (v : Value) (l : List Int) (w : World) (hr : RdInts w v l) (h0 : 0 < l.length) (hle : l.length ≤ 1000000) :
    Calls Try.prog 59 #[v] w fun e w' => ∃ b c cur, e = .returned (.slice (some ⟨b, 0, none⟩) l.length c) ∧ Kp w w' ∧ w.heap.size ≤ b ∧ w'.heap[b]? = some (.cells cur 3 (0, 0)) ∧ ∀ j, j < l.length → cur[j]? = some (.int .i64 (l.getD j 0)) := by
  obtain ⟨b, off, cap, rfl, _⟩ := hr.at h0
  refine lift59 ?_
  unfold S59
  refine r_eq36 ?_
  rw [r_condF, bs36_0]
  have hk : Kp w (w.alloc (.cells #[] 3)) := below_alloc _
  have hnb := heap_alloc_new w (.cells #[] 3)
  have hsz : (w.alloc (.cells #[] 3)).heap.size = w.heap.size + 1 := by show (w.heap.push _).size = _; simp
  generalize w.alloc (.cells #[] 3) = w1 at *
  have ho : w1.ownsRow w.heap.size 3 1 (.slice (some ⟨w.heap.size, 0, none⟩) 0 0) 0 (intCells []) := ⟨rfl, .inr ⟨w.heap.size, 0, #[], rfl, Nat.le_refl _, hnb, Nat.le_refl _, by decide, by simp, rfl⟩⟩
  refine r_apInts ho (hr.below hk) (by omega) (by omega) fun v' w' ho' hg => ?_
  have hk' : Kp w w' := Below.grown hk hg (by omega) fun k hk' => (ho.lt k hk').1
  rw [Nat.zero_add, List.nil_append] at ho'
  rcases ho'.2 with ⟨rfl, h⟩ | ⟨g, cap', cur, rfl, hb, hg', hle', hm, hs, ht⟩
  · omega
  · refine ⟨g, cap', cur, rfl, hk', hb, hg', fun j hj => ?_⟩
    have : cur.toList[j]? = (intCells l)[j]? := by rw [← ht, List.getElem?_take, if_pos (by omega)]
    rw [← Array.getElem?_toList, this]
    simp [intCells, hj]

theorem r_slA4to {b : Nat} {K : Value → Prop} : ∀ (n : Nat), n ≤ 4 → slA 4 1 (.pointer (some ⟨b, 0, none⟩)) none (some (.int .i64 (n : Int))) K = K (.slice (some ⟨b, 0, none⟩) n 4)
  | 0, _ => rfl
  | 1, _ => rfl
  | 2, _ => rfl
  | 3, _ => rfl
  | 4, _ => rfl

theorem rd_blockTo {w : World} {b n : Nat} {t : TypeId} {fr : Nat × Nat} {r : List Int} (h : w.heap[b]? = some (.cells (intCells r).toArray t fr)) (hn : n ≤ r.length) (h4 : r.length ≤ 4) : RdInts w (.slice (some ⟨b, 0, none⟩) n 4) (r.take n) := by
  have hl : (r.take n).length = n := by simp; omega
  refine ⟨_, 4, by rw [hl], by omega, fun _ => ⟨b, 0, rfl, fun i hi => ?_⟩⟩
  rw [hl] at hi
  rw [Nat.zero_add, cell_row h]
  have hi2 : i < r.length := by omega
  simp [intCells, hi, hi2, List.getD_eq_getElem?_getD, List.getElem?_take]

theorem drop_flat {f : List Int → List (List (List Int))} {rows : List (List Int)} {j : Nat} (h : j < rows.length) : (rows.drop j).flatMap f = f (rows.getD j []) ++ (rows.drop (j + 1)).flatMap f := by
  rw [List.drop_eq_getElem_cons h, List.flatMap_cons, getD_lt _ _ _ h]

set_option maxRecDepth 100000 in
theorem heapf_calls (A B C rank : Int) (w : World) (hr0 : -9223372036854775808 ≤ rank) (hr1 : rank ≤ 9223372036854775807) :
    Calls Try.prog 19 #[boxV A B C, .int .i64 rank] w fun e w' => ∃ v err, e = .returned (.tuple #[v, .int .i64 err]) ∧ Kp w w' ∧ RefHeap A B C rank w w' v err := by
  refine lift19 ?_
  unfold S19
  refine r_box fun b w1 hbw hsz hb hk => ?_
  simp (disch := omega) only [r_ln, r_pick, r_pickT, r_pickF, r_condT, r_condF, r_gdTT, r_gdFF, r_gdTF, r_gdFT, r_gqTT, r_gqFF, r_gqTF, r_gqFT, r_not, r_lss, r_leq, r_gtr, r_geq, r_eql, r_neq, r_add, r_sub, r_min2, r_max2, r_min3, r_max3, r_fa, r_iaS, r_iaA, r_ex2a, r_ex2b, r_ex3a, r_ex3b, r_ex3c, r_nc, r_keepE, Nat.zero_add, Nat.add_zero, Nat.mul_one, Int.toNat_natCast, toNat_sub1, toNat_add1, decide_true, decide_false, Bool.not_true, Bool.not_false, if_true, if_false, Bool.false_eq_true, reduceCtorEq, r_ldRow (n := 3) hb rfl]
  refine r_use fok58 (valid_calls A B C w1) rfl ?_
  rintro e w2 ⟨rfl, hk2⟩
  refine ⟨_, rfl, ?_⟩
  have hkw2 := Kp.trans hk hk2
  have hb2 := block_below hb hk2
  by_cases hv : validB A B C = true
  case neg =>
    have hv' : validB A B C = false := by simpa using hv
    simp (disch := omega) only [r_ln, r_pick, r_pickT, r_pickF, r_condT, r_condF, r_gdTT, r_gdFF, r_gdTF, r_gdFT, r_gqTT, r_gqFF, r_gqTF, r_gqFT, r_not, r_lss, r_leq, r_gtr, r_geq, r_eql, r_neq, r_add, r_sub, r_min2, r_max2, r_min3, r_max3, r_fa, r_iaS, r_iaA, r_ex2a, r_ex2b, r_ex3a, r_ex3b, r_ex3c, r_nc, r_keepE, Nat.zero_add, Nat.add_zero, Nat.mul_one, Int.toNat_natCast, toNat_sub1, toNat_add1, decide_true, decide_false, Bool.not_true, Bool.not_false, if_true, if_false, Bool.false_eq_true, reduceCtorEq, hv']
    exact ⟨nilS, 2, rfl, hkw2, by simp [RefHeap, hv']⟩
  obtain ⟨a, b', c, rfl, rfl, rfl, h1, h2, h3, hb4, h5, h6⟩ := validB_nat hv
  simp (disch := omega) only [hv, r_not, Bool.not_true, r_condF]
  refine r_drew fun y0 hk0 _ => ?_
  have hkw0 := Kp.trans hkw2 hk0
  have hby0 := block_below hb2 hk0
  have hblt := block_lt hby0
  refine r_join2 (fun t7 t9 w' => ∃ b7 b9 m, t7 = ptrV b7 ∧ t9 = ptrV b9 ∧ Kp y0 w' ∧ w'.heap[b7]? = some (.cells (counterV a b' c m).cells 77 (0, 0)) ∧ w'.heap[b9]? = some (.cells (intCells (topRow b' c)).toArray 80 (0, 0)) ∧
    MemoAt w' m (knownF b') ∧ y0.heap.size ≤ b7 ∧ y0.heap.size ≤ b9 ∧ y0.heap.size ≤ m ∧ b7 ≠ b9 ∧ m ≠ b7 ∧ m ≠ b9) ?_ ?_
  rotate_left
  · intro k hkk
    rw [r_ldRow (n := 3) hby0 rfl, r_ldRow (n := 3) hby0 rfl, agg_cells]
    have fin : ∀ (w' : World) (b7 b9 m : Nat), Kp y0 w' → w'.heap[b7]? = some (.cells (Value.agg #[.int .i64 0, .int .i64 0, .int .i64 0, .map none]).cells 77 (0, 0)) → w'.heap[b9]? = some (.cells (Value.agg #[.int .i64 0, .int .i64 0, .int .i64 0, .int .i64 0]).cells 80 (0, 0)) →
        w'.heap[m]? = some (.map #[] 0) → y0.heap.size ≤ b7 ∧ y0.heap.size ≤ b9 ∧ y0.heap.size ≤ m →
        stW Try.prog 77 (ptrV b7) (counterV a b' c m) w' fun w => stW Try.prog 80 (ptrV b9) (rowV (topRow b' c)) w fun w => k (ptrV b7) (ptrV b9) w := by
      intro w' b7 b9 m hx g7 g9 gm hge
      have n79 : b7 ≠ b9 := by rintro rfl; rw [g7] at g9; cases g9
      have nm7 := map_cells_ne gm g7
      have nm9 := map_cells_ne gm g9
      refine r_stAll (n := 4) (ty := 77) (by kernel_rfl) rfl (by intro u hu; simp [Value.cells] at hu; rcases hu with rfl | rfl | rfl | rfl <;> rfl) g7 rfl fun w5 hc5 hs5 hb5 => ?_
      refine r_stAll (n := 4) (ty := 80) (by kernel_rfl) (by rw [rowV_size]; exact topRow_length hb4) (rowV_one _) (hc5.at g9 (Ne.symm n79)) rfl fun w6 hc6 hs6 hb6 => ?_
      exact hkk _ _ _ ⟨b7, b9, m, rfl, rfl, Kp.of_chg (Kp.of_chg hx hc5 fun i e => by omega) hc6 fun i e => by omega, hc6.at hb5 n79, hb6, memo_empty _ (hc6.at (hc5.at gm nm7) nm9), hge.1, hge.2.1, hge.2.2, n79, nm7, nm9⟩
    refine ⟨?_, ?_, ?_, trivial⟩
    · refine r_use fok52 (count_calls a b' c y0) rfl ?_
      rintro _ y1 ⟨m, rfl, x1, hm0, gm⟩
      refine ⟨_, rfl, x1, ?_⟩
      refine ⟨?_, ?_, ?_, trivial⟩
      · refine r_use fok53 (top_calls a c b' y1 hb4) rfl ?_
        rintro _ y2 ⟨rfl, x2⟩
        refine ⟨_, rfl, x2, ?_⟩
        refine ⟨?_, ?_, trivial⟩
        · refine r_box fun b7 y3 e7 s7 g7 x3 => ⟨x3, ?_⟩
          refine r_box fun b9 y4 e9 s9 g9 x4 => ⟨x4, ?_⟩
          exact fin _ _ _ _ (Kp.trans (Kp.trans (Kp.trans x1 x2) x3) x4) (block_below g7 x4) g9 (block_below gm (Kp.trans (Kp.trans x2 x3) x4)) (by have := Below.size x1; have := Below.size x2; have := Below.size x3; have := Below.size x4; omega)
        · refine r_box fun b9 y3 e9 s9 g9 x3 => ⟨x3, ?_⟩
          refine r_box fun b7 y4 e7 s7 g7 x4 => ⟨x4, ?_⟩
          exact fin _ _ _ _ (Kp.trans (Kp.trans (Kp.trans x1 x2) x3) x4) g7 (block_below g9 x4) (block_below gm (Kp.trans (Kp.trans x2 x3) x4)) (by have := Below.size x1; have := Below.size x2; have := Below.size x3; have := Below.size x4; omega)
      · refine r_box fun b7 y2 e7 s7 g7 x2 => ⟨x2, ?_⟩
        refine ⟨?_, ?_, trivial⟩
        · refine r_use fok53 (top_calls a c b' y2 hb4) rfl ?_
          rintro _ y3 ⟨rfl, x3⟩
          refine ⟨_, rfl, x3, ?_⟩
          refine r_box fun b9 y4 e9 s9 g9 x4 => ⟨x4, ?_⟩
          exact fin _ _ _ _ (Kp.trans (Kp.trans (Kp.trans x1 x2) x3) x4) (block_below g7 (Kp.trans x3 x4)) g9 (block_below gm (Kp.trans (Kp.trans x2 x3) x4)) (by have := Below.size x1; have := Below.size x2; have := Below.size x3; have := Below.size x4; omega)
        · refine r_box fun b9 y3 e9 s9 g9 x3 => ⟨x3, ?_⟩
          refine r_use fok53 (top_calls a c b' y3 hb4) rfl ?_
          rintro _ y4 ⟨rfl, x4⟩
          refine ⟨_, rfl, x4, ?_⟩
          exact fin _ _ _ _ (Kp.trans (Kp.trans (Kp.trans x1 x2) x3) x4) (block_below g7 (Kp.trans x3 x4)) (block_below g9 x4) (block_below gm (Kp.trans (Kp.trans x2 x3) x4)) (by have := Below.size x1; have := Below.size x2; have := Below.size x3; have := Below.size x4; omega)
      · refine r_box fun b9 y2 e9 s9 g9 x2 => ⟨x2, ?_⟩
        refine ⟨?_, ?_, trivial⟩
        · refine r_use fok53 (top_calls a c b' y2 hb4) rfl ?_
          rintro _ y3 ⟨rfl, x3⟩
          refine ⟨_, rfl, x3, ?_⟩
          refine r_box fun b7 y4 e7 s7 g7 x4 => ⟨x4, ?_⟩
          exact fin _ _ _ _ (Kp.trans (Kp.trans (Kp.trans x1 x2) x3) x4) g7 (block_below g9 (Kp.trans x3 x4)) (block_below gm (Kp.trans (Kp.trans x2 x3) x4)) (by have := Below.size x1; have := Below.size x2; have := Below.size x3; have := Below.size x4; omega)
        · refine r_box fun b7 y3 e7 s7 g7 x3 => ⟨x3, ?_⟩
          refine r_use fok53 (top_calls a c b' y3 hb4) rfl ?_
          rintro _ y4 ⟨rfl, x4⟩
          refine ⟨_, rfl, x4, ?_⟩
          exact fin _ _ _ _ (Kp.trans (Kp.trans (Kp.trans x1 x2) x3) x4) (block_below g7 x4) (block_below g9 (Kp.trans x3 x4)) (block_below gm (Kp.trans (Kp.trans x2 x3) x4)) (by have := Below.size x1; have := Below.size x2; have := Below.size x3; have := Below.size x4; omega)
    · refine r_box fun b7 y1 e7 s7 g7 x1 => ⟨x1, ?_⟩
      refine ⟨?_, ?_, trivial⟩
      · refine r_use fok52 (count_calls a b' c y1) rfl ?_
        rintro _ y2 ⟨m, rfl, x2, hm0, gm⟩
        refine ⟨_, rfl, x2, ?_⟩
        refine ⟨?_, ?_, trivial⟩
        · refine r_use fok53 (top_calls a c b' y2 hb4) rfl ?_
          rintro _ y3 ⟨rfl, x3⟩
          refine ⟨_, rfl, x3, ?_⟩
          refine r_box fun b9 y4 e9 s9 g9 x4 => ⟨x4, ?_⟩
          exact fin _ _ _ _ (Kp.trans (Kp.trans (Kp.trans x1 x2) x3) x4) (block_below g7 (Kp.trans (Kp.trans x2 x3) x4)) g9 (block_below gm (Kp.trans x3 x4)) (by have := Below.size x1; have := Below.size x2; have := Below.size x3; have := Below.size x4; omega)
        · refine r_box fun b9 y3 e9 s9 g9 x3 => ⟨x3, ?_⟩
          refine r_use fok53 (top_calls a c b' y3 hb4) rfl ?_
          rintro _ y4 ⟨rfl, x4⟩
          refine ⟨_, rfl, x4, ?_⟩
          exact fin _ _ _ _ (Kp.trans (Kp.trans (Kp.trans x1 x2) x3) x4) (block_below g7 (Kp.trans (Kp.trans x2 x3) x4)) (block_below g9 x4) (block_below gm (Kp.trans x3 x4)) (by have := Below.size x1; have := Below.size x2; have := Below.size x3; have := Below.size x4; omega)
      · refine r_box fun b9 y2 e9 s9 g9 x2 => ⟨x2, ?_⟩
        refine r_use fok52 (count_calls a b' c y2) rfl ?_
        rintro _ y3 ⟨m, rfl, x3, hm0, gm⟩
        refine ⟨_, rfl, x3, ?_⟩
        refine r_use fok53 (top_calls a c b' y3 hb4) rfl ?_
        rintro _ y4 ⟨rfl, x4⟩
        refine ⟨_, rfl, x4, ?_⟩
        exact fin _ _ _ _ (Kp.trans (Kp.trans (Kp.trans x1 x2) x3) x4) (block_below g7 (Kp.trans (Kp.trans x2 x3) x4)) (block_below g9 (Kp.trans x3 x4)) (block_below gm x4) (by have := Below.size x1; have := Below.size x2; have := Below.size x3; have := Below.size x4; omega)
    · refine r_box fun b9 y1 e9 s9 g9 x1 => ⟨x1, ?_⟩
      refine ⟨?_, ?_, trivial⟩
      · refine r_use fok52 (count_calls a b' c y1) rfl ?_
        rintro _ y2 ⟨m, rfl, x2, hm0, gm⟩
        refine ⟨_, rfl, x2, ?_⟩
        refine ⟨?_, ?_, trivial⟩
        · refine r_use fok53 (top_calls a c b' y2 hb4) rfl ?_
          rintro _ y3 ⟨rfl, x3⟩
          refine ⟨_, rfl, x3, ?_⟩
          refine r_box fun b7 y4 e7 s7 g7 x4 => ⟨x4, ?_⟩
          exact fin _ _ _ _ (Kp.trans (Kp.trans (Kp.trans x1 x2) x3) x4) g7 (block_below g9 (Kp.trans (Kp.trans x2 x3) x4)) (block_below gm (Kp.trans x3 x4)) (by have := Below.size x1; have := Below.size x2; have := Below.size x3; have := Below.size x4; omega)
        · refine r_box fun b7 y3 e7 s7 g7 x3 => ⟨x3, ?_⟩
          refine r_use fok53 (top_calls a c b' y3 hb4) rfl ?_
          rintro _ y4 ⟨rfl, x4⟩
          refine ⟨_, rfl, x4, ?_⟩
          exact fin _ _ _ _ (Kp.trans (Kp.trans (Kp.trans x1 x2) x3) x4) (block_below g7 x4) (block_below g9 (Kp.trans (Kp.trans x2 x3) x4)) (block_below gm (Kp.trans x3 x4)) (by have := Below.size x1; have := Below.size x2; have := Below.size x3; have := Below.size x4; omega)
      · refine r_box fun b7 y2 e7 s7 g7 x2 => ⟨x2, ?_⟩
        refine r_use fok52 (count_calls a b' c y2) rfl ?_
        rintro _ y3 ⟨m, rfl, x3, hm0, gm⟩
        refine ⟨_, rfl, x3, ?_⟩
        refine r_use fok53 (top_calls a c b' y3 hb4) rfl ?_
        rintro _ y4 ⟨rfl, x4⟩
        refine ⟨_, rfl, x4, ?_⟩
        exact fin _ _ _ _ (Kp.trans (Kp.trans (Kp.trans x1 x2) x3) x4) (block_below g7 (Kp.trans x3 x4)) (block_below g9 (Kp.trans (Kp.trans x2 x3) x4)) (block_below gm x4) (by have := Below.size x1; have := Below.size x2; have := Below.size x3; have := Below.size x4; omega)
  rintro _ _ z0 ⟨b7, b9, m, rfl, rfl, hz, g7, g9, gm, l7, l9, lm, n79, nm7, nm9⟩
  have hbz := block_below hby0 hz
  have hlen : ∀ n r, waysM b' n r = (allE b' n r).length := ways_length b'
  have hkwz : Kp w z0 := Kp.trans hkw0 hz
  by_cases hneg : rank < 0
  case pos =>
    simp (disch := omega) only [r_ln, r_pick, r_pickT, r_pickF, r_condT, r_condF, r_gdTT, r_gdFF, r_gdTF, r_gdFT, r_gqTT, r_gqFF, r_gqTF, r_gqFT, r_not, r_lss, r_leq, r_gtr, r_geq, r_eql, r_neq, r_add, r_sub, r_min2, r_max2, r_min3, r_max3, r_fa, r_iaS, r_iaA, r_ex2a, r_ex2b, r_ex3a, r_ex3b, r_ex3c, r_nc, r_keepE, Nat.zero_add, Nat.add_zero, Nat.mul_one, Int.toNat_natCast, toNat_sub1, toNat_add1, decide_true, decide_false, Bool.not_true, Bool.not_false, if_true, if_false, Bool.false_eq_true, reduceCtorEq, hneg]
    refine ⟨nilS, 4, rfl, hkwz, ?_⟩
    simp [RefHeap, hv, hneg]
  obtain ⟨k0, rfl⟩ := Int.eq_ofNat_of_zero_le (show 0 ≤ rank by omega)
  obtain ⟨c0, c1, c2⟩ := box3 hbz
  have htl : (topRow b' (c : Int)).length = 4 := topRow_length hb4
  simp (disch := omega) only [r_ln, r_pick, r_pickT, r_pickF, r_condT, r_condF, r_gdTT, r_gdFF, r_gdTF, r_gdFT, r_gqTT, r_gqFF, r_gqTF, r_gqFT, r_not, r_lss, r_leq, r_gtr, r_geq, r_eql, r_neq, r_add, r_sub, r_min2, r_max2, r_min3, r_max3, r_fa, r_iaS, r_iaA, r_ex2a, r_ex2b, r_ex3a, r_ex3b, r_ex3c, r_nc, r_keepE, Nat.zero_add, Nat.add_zero, Nat.mul_one, Int.toNat_natCast, toNat_sub1, toNat_add1, decide_true, decide_false, Bool.not_true, Bool.not_false, if_true, if_false, Bool.false_eq_true, reduceCtorEq, hneg, r_ldRow (n := 4) g7 rfl, r_ld c0, r_ldRow (n := 4) g9 (by simp [intCells, htl]), agg_cells, bd88 _ htl]
  refine r_use fok57 (ways_calls a c b' m hb4 a (topRow b' c) z0 (by omega) htl (topRow_range (by omega) (by omega)) gm) rfl ?_
  rintro _ z1 ⟨rfl, gm1, hc1⟩
  refine ⟨_, rfl, ?_⟩
  have g7' := hc1.at g7 (Ne.symm nm7)
  have g9' := hc1.at g9 (Ne.symm nm9)
  have hkw1 : Kp w z1 := Kp.of_chg hkwz hc1 fun i e => by have := hkw0.size; omega
  have hky1 : Kp y0 z1 := Kp.of_chg hz hc1 fun i e => by omega
  have hb1 := block_below hby0 hky1
  have hheaps : heaps a b' c = allE b' a (topRow b' c) := rfl
  have hwl := hlen a (topRow b' c)
  by_cases hge : (allE b' a (topRow b' c)).length ≤ k0
  case pos =>
    have hge' : waysM b' a (topRow b' c) ≤ (k0 : Int) := by omega
    simp (disch := omega) only [r_ln, r_pick, r_pickT, r_pickF, r_condT, r_condF, r_gdTT, r_gdFF, r_gdTF, r_gdFT, r_gqTT, r_gqFF, r_gqTF, r_gqFT, r_not, r_lss, r_leq, r_gtr, r_geq, r_eql, r_neq, r_add, r_sub, r_min2, r_max2, r_min3, r_max3, r_fa, r_iaS, r_iaA, r_ex2a, r_ex2b, r_ex3a, r_ex3b, r_ex3c, r_nc, r_keepE, Nat.zero_add, Nat.add_zero, Nat.mul_one, Int.toNat_natCast, toNat_sub1, toNat_add1, decide_true, decide_false, Bool.not_true, Bool.not_false, if_true, if_false, Bool.false_eq_true, reduceCtorEq, hge']
    refine ⟨nilS, 4, rfl, hkw1, ?_⟩
    simp only [RefHeap, hv, Bool.true_eq_false, if_false, Int.toNat_natCast]
    rw [if_neg hneg, iterN_heaps (by omega) hb4 (by omega), List.getElem?_eq_none (by rw [hheaps]; exact hge)]
    exact ⟨trivial, trivial⟩
  have hge' : ¬ waysM b' a (topRow b' c) ≤ (k0 : Int) := by omega
  obtain ⟨d0, d1, d2⟩ := box3 hb1
  simp (disch := omega) only [r_ln, r_pick, r_pickT, r_pickF, r_condT, r_condF, r_gdTT, r_gdFF, r_gdTF, r_gdFT, r_gqTT, r_gqFF, r_gqTF, r_gqFT, r_not, r_lss, r_leq, r_gtr, r_geq, r_eql, r_neq, r_add, r_sub, r_min2, r_max2, r_min3, r_max3, r_fa, r_iaS, r_iaA, r_ex2a, r_ex2b, r_ex3a, r_ex3b, r_ex3c, r_nc, r_keepE, Nat.zero_add, Nat.add_zero, Nat.mul_one, Int.toNat_natCast, toNat_sub1, toNat_add1, decide_true, decide_false, Bool.not_true, Bool.not_false, if_true, if_false, Bool.false_eq_true, reduceCtorEq, hge', r_ld d0]
  have hsz1 := hky1.size
  refine ⟨fun t1 t8 t34 wr => ∃ (i rk : Nat) (rows : List (List Int)) (last : List Int) (bs cs : Nat → Nat), i ≤ a ∧ t34 = .int .i64 i ∧ t1 = .int .i64 rk ∧ rows.length = i ∧ FRows z1.heap.size wr t8 bs cs rows ∧ Kp y0 wr ∧
      wr.heap[b7]? = some (.cells (counterV a b' c m).cells 77 (0, 0)) ∧ wr.heap[b9]? = some (.cells (intCells last).toArray 80 (0, 0)) ∧ MemoAt wr m (knownF b') ∧ z1.heap.size ≤ wr.heap.size ∧
      Above b' c i rows.flatten last ∧ (∀ k, 0 ≤ last.getD k 0 ∧ last.getD k 0 ≤ 4) ∧ (∀ q, q < i → (rows.getD q []).length = b') ∧ rk < (allE b' (a - i) last).length ∧ (∀ t, (allE b' (a - i) last)[rk]? = some t → (heaps a b' c)[k0]? = some (rows ++ t)),
    fun _ _ t34 _ => a - (intOf t34).toNat,
    ⟨0, k0, [], topRow b' c, fun _ => 0, fun _ => 0, by omega, rfl, rfl, rfl, FRows.nil _ _ _ _, hky1, g7', g9', gm1, Nat.le_refl _, above_top hb4, topRow_range (by omega) (by omega), by omega, by simpa using hge, fun t ht => by simpa [hheaps] using ht⟩, ?_⟩
  rintro _ _ _ _ wr ⟨i, rk, rows, last, bs, cs, hi, rfl, rfl, hrl, hF, hkr, p7, p9, pm, hsr, hab, hrange, hrows, hrk, hsel⟩
  have hbr := block_below hby0 hkr
  have hkwr := Kp.trans hkw0 hkr
  by_cases hlt : i < a
  case neg =>
    have hlt' : ¬ (i : Int) < (a : Int) := by omega
    have e : i = a := by omega
    subst e
    simp (disch := omega) only [r_ln, r_pick, r_pickT, r_pickF, r_condT, r_condF, r_gdTT, r_gdFF, r_gdTF, r_gdFT, r_gqTT, r_gqFF, r_gqTF, r_gqFT, r_not, r_lss, r_leq, r_gtr, r_geq, r_eql, r_neq, r_add, r_sub, r_min2, r_max2, r_min3, r_max3, r_fa, r_iaS, r_iaA, r_ex2a, r_ex2b, r_ex3a, r_ex3b, r_ex3c, r_nc, r_keepE, Nat.zero_add, Nat.add_zero, Nat.mul_one, Int.toNat_natCast, toNat_sub1, toNat_add1, decide_true, decide_false, Bool.not_true, Bool.not_false, if_true, if_false, Bool.false_eq_true, reduceCtorEq, hlt']
    rw [Nat.sub_self] at hrk hsel
    have e0 : rk = 0 := by simp [allE] at hrk; exact hrk
    subst e0
    have hfin := hsel [] rfl
    rw [List.append_nil] at hfin
    refine ⟨_, 0, rfl, hkwr, ?_⟩
    simp only [RefHeap, hv, Bool.true_eq_false, if_false, Int.toNat_natCast]
    rw [if_neg hneg, iterN_heaps (by omega) hb4 (by omega), hfin]
    exact ⟨hF.new (by omega) hkw1.size ⟨by omega, fun q hq => by rw [hrows q (by omega)]; omega⟩, trivial⟩
  have hlt' : (i : Int) < (a : Int) := by omega
  have hal : last.length = 4 := hab.2.1
  simp (disch := omega) only [r_ln, r_pick, r_pickT, r_pickF, r_condT, r_condF, r_gdTT, r_gdFF, r_gdTF, r_gdFT, r_gqTT, r_gqFF, r_gqTF, r_gqFT, r_not, r_lss, r_leq, r_gtr, r_geq, r_eql, r_neq, r_add, r_sub, r_min2, r_max2, r_min3, r_max3, r_fa, r_iaS, r_iaA, r_ex2a, r_ex2b, r_ex3a, r_ex3b, r_ex3c, r_nc, r_keepE, Nat.zero_add, Nat.add_zero, Nat.mul_one, Int.toNat_natCast, toNat_sub1, toNat_add1, decide_true, decide_false, Bool.not_true, Bool.not_false, if_true, if_false, Bool.false_eq_true, reduceCtorEq, hlt', r_ldRow (n := 3) hbr rfl, r_ldRow (n := 4) p9 (by simp [intCells, hal]), agg_cells]
  refine r_use fok55 (below_calls a c b' last wr hb4 hal fun k => by have := hrange k; omega) rfl ?_
  rintro _ u0 ⟨v39, rfl, hu0, ho⟩
  refine ⟨_, rfl, ?_⟩
  have hfr := belowM_fine (B := b') (M := 4) (by decide) fun k => (hrange k).2
  have hcount := belowM_count (B := b') (ab := last) hb4 fun k => (hrange k).2
  obtain ⟨n, hn⟩ : ∃ n, a - i = n + 1 := ⟨a - i - 1, by omega⟩
  rw [hn] at hrk hsel
  have hmem : ∀ r ∈ belowM b' last, (r.take b').length = b' ∧ Above b' c (i + 1) (rows.flatten ++ r.take b') r := fun r hr => (below_mem hab hb4 hr).2
  have hrkb : rk ≤ 152587890625 := by
    have x1 := ways_le hb4 (show n + 1 ≤ 4 by omega) fun k => (hrange k).2
    have x2 := hlen (n + 1) last
    omega
  simp only [allE] at hrk hsel
  have h4 : ∀ r ∈ belowM b' last, r.length = 4 := fun r hr => (hfr r hr).1
  generalize belowM b' last = rs at *
  obtain ⟨ra, rc, rfl⟩ := owned_len ho
  simp (disch := omega) only [r_ln, r_pick, r_pickT, r_pickF, r_condT, r_condF, r_gdTT, r_gdFF, r_gdTF, r_gdFT, r_gqTT, r_gqFF, r_gqTF, r_gqFT, r_not, r_lss, r_leq, r_gtr, r_geq, r_eql, r_neq, r_add, r_sub, r_min2, r_max2, r_min3, r_max3, r_fa, r_iaS, r_iaA, r_ex2a, r_ex2b, r_ex3a, r_ex3b, r_ex3c, r_nc, r_keepE, Nat.zero_add, Nat.add_zero, Nat.mul_one, Int.toNat_natCast, toNat_sub1, toNat_add1, decide_true, decide_false, Bool.not_true, Bool.not_false, if_true, if_false, Bool.false_eq_true, reduceCtorEq]
  refine r_join2 (fun t1 t8 w' => ∃ (rk : Nat) (rows' : List (List Int)) (last' : List Int) (bs cs : Nat → Nat), t1 = .int .i64 rk ∧ rows'.length = i + 1 ∧ FRows z1.heap.size w' t8 bs cs rows' ∧ Kp y0 w' ∧
      w'.heap[b7]? = some (.cells (counterV a b' c m).cells 77 (0, 0)) ∧ w'.heap[b9]? = some (.cells (intCells last').toArray 80 (0, 0)) ∧ MemoAt w' m (knownF b') ∧ z1.heap.size ≤ w'.heap.size ∧
      Above b' c (i + 1) rows'.flatten last' ∧ (∀ k, 0 ≤ last'.getD k 0 ∧ last'.getD k 0 ≤ 4) ∧ (∀ q, q < i + 1 → (rows'.getD q []).length = b') ∧ rk < (allE b' n last').length ∧ (∀ t, (allE b' n last')[rk]? = some t → (heaps a b' c)[k0]? = some (rows' ++ t))) ?_ ?_
  · rintro _ _ w' ⟨rk', rows', last', bs', cs', rfl, q1, q2, q3, q4, q5, q6, q7, q8, q9, q10, q11, q12⟩
    try simp (disch := omega) only [r_ln, r_pick, r_pickT, r_pickF, r_condT, r_condF, r_gdTT, r_gdFF, r_gdTF, r_gdFT, r_gqTT, r_gqFF, r_gqTF, r_gqFT, r_not, r_lss, r_leq, r_gtr, r_geq, r_eql, r_neq, r_add, r_sub, r_min2, r_max2, r_min3, r_max3, r_fa, r_iaS, r_iaA, r_ex2a, r_ex2b, r_ex3a, r_ex3b, r_ex3c, r_nc, r_keepE, Nat.zero_add, Nat.add_zero, Nat.mul_one, Int.toNat_natCast, toNat_sub1, toNat_add1, decide_true, decide_false, Bool.not_true, Bool.not_false, if_true, if_false, Bool.false_eq_true, reduceCtorEq]
    exact ⟨⟨i + 1, rk', rows', last', bs', cs', by omega, by go_num, rfl, q1, q2, q3, q4, q5, q6, q7, q8, q9, q10, by rw [show a - (i + 1) = n by omega]; exact q11, by rw [show a - (i + 1) = n by omega]; exact q12⟩, by simp only [intOf]; omega⟩
  intro k3 hk3
  refine ⟨fun t1 t8 t41 wq => ∃ (j rj : Nat), j ≤ rs.length ∧ t41 = .int .i64 j ∧ t1 = .int .i64 rj ∧ FRows z1.heap.size wq t8 bs cs rows ∧ Chg (fun k => k = m) u0 wq ∧ MemoAt wq m (knownF b') ∧
      rj < ((rs.drop j).flatMap fun r => (allE b' n r).map (r.take b' :: ·)).length ∧ ((rs.drop j).flatMap fun r => (allE b' n r).map (r.take b' :: ·))[rj]? = (rs.flatMap fun r => (allE b' n r).map (r.take b' :: ·))[rk]? ∧ rj ≤ rk,
    fun _ _ t41 _ => rs.length - (intOf t41).toNat, ⟨0, rk, by omega, rfl, rfl, hF.kp hu0, Chg.refl _ _, pm.kp hu0, by simpa using hrk, by simp, Nat.le_refl _⟩, ?_⟩
  rintro _ _ t8 _ wq ⟨j, rj, hj, rfl, rfl, hFq, hcq, pmq, hrj, hseq, hrjk⟩
  by_cases hjt : j < rs.length
  case neg =>
    have : j = rs.length := by omega
    subst this
    simp at hrj
  have hjt' : (j : Int) < (rs.length : Int) := by omega
  have hmlt := pm.lt
  have hkuq : Kp y0 wq := Kp.of_chg (Kp.trans hkr hu0) hcq fun i e => by omega
  have hoq := owns_chg ho hcq fun k hk e => by have := owned_block ho hk; omega
  obtain ⟨g, cap, cur, e, hgb, hg, hgs, hrw⟩ := rows4 hoq h4 hjt
  cases e
  have hrm : rs.getD j [] ∈ rs := by rw [getD_lt _ _ _ hjt]; exact List.getElem_mem hjt
  have hl4 := h4 _ hrm
  have p7q := hcq.at (block_below p7 hu0) (Ne.symm nm7)
  have p9q := hcq.at (block_below p9 hu0) (Ne.symm nm9)
  have hbq := block_below hby0 hkuq
  simp (disch := omega) only [r_ln, r_pick, r_pickT, r_pickF, r_condT, r_condF, r_gdTT, r_gdFF, r_gdTF, r_gdFT, r_gqTT, r_gqFF, r_gqTF, r_gqFT, r_not, r_lss, r_leq, r_gtr, r_geq, r_eql, r_neq, r_add, r_sub, r_min2, r_max2, r_min3, r_max3, r_fa, r_iaS, r_iaA, r_ex2a, r_ex2b, r_ex3a, r_ex3b, r_ex3c, r_nc, r_keepE, Nat.zero_add, Nat.add_zero, Nat.mul_one, Int.toNat_natCast, toNat_sub1, toNat_add1, decide_true, decide_false, Bool.not_true, Bool.not_false, if_true, if_false, Bool.false_eq_true, reduceCtorEq, hjt', r_ldAt (n := 4) hg hgs hrw]
  refine r_box fun b11 q1 e11 s11 g11 hq1 => ?_
  refine r_stAll (n := 4) (ty := 80) (v := .agg (intCells (rs.getD j [])).toArray) (by kernel_rfl) (by rw [rowV_size]; exact hl4) (rowV_one _) g11 rfl fun q2 hcq2 hsq2 g11' => ?_
  have hkq2 : Kp wq q2 := Kp.of_chg hq1 hcq2 fun i e => by omega
  obtain ⟨f0, f1, f2⟩ := box3 (block_below hbq hkq2)
  have ei : (a : Int) - 1 - i = (n : Nat) := by omega
  simp (disch := omega) only [r_ln, r_pick, r_pickT, r_pickF, r_condT, r_condF, r_gdTT, r_gdFF, r_gdTF, r_gdFT, r_gqTT, r_gqFF, r_gqTF, r_gqFT, r_not, r_lss, r_leq, r_gtr, r_geq, r_eql, r_neq, r_add, r_sub, r_min2, r_max2, r_min3, r_max3, r_fa, r_iaS, r_iaA, r_ex2a, r_ex2b, r_ex3a, r_ex3b, r_ex3c, r_nc, r_keepE, Nat.zero_add, Nat.add_zero, Nat.mul_one, Int.toNat_natCast, toNat_sub1, toNat_add1, decide_true, decide_false, Bool.not_true, Bool.not_false, if_true, if_false, Bool.false_eq_true, reduceCtorEq, r_ldRow (n := 4) (block_below p7q hkq2) rfl, r_ld f0, r_ldRow (n := 4) g11' (by rw [rowV_size]; exact hl4), agg_cells, ei, bd88 _ hl4]
  refine r_use fok57 (ways_calls a c b' m hb4 n (rs.getD j []) q2 (by omega) hl4 (fun k => (hfr _ hrm).2 k) (pmq.kp hkq2)) rfl ?_
  rintro _ q3 ⟨rfl, pm3, hc3⟩
  refine ⟨_, rfl, ?_⟩
  have hmq : m < wq.heap.size := pmq.lt
  have g11q := hc3.at g11' (by omega)
  have hky3 : Kp y0 q3 := Kp.of_chg (Kp.trans hkuq hkq2) hc3 fun i e => by omega
  have hz1m : m < z1.heap.size := gm1.lt
  have hF3 : FRows z1.heap.size q3 t8 bs cs rows := (hFq.kp hkq2).chg' hc3 fun k e => by omega
  have hw3 := hlen n (rs.getD j [])
  have hdf := drop_flat (f := fun r => (allE b' n r).map (r.take b' :: ·)) hjt
  have hq23 := hc3.size
  have hzq := Below.size hq1
  have hu0s := hu0.size
  have hcqs := hcq.size
  by_cases hsm : rj < (allE b' n (rs.getD j [])).length
  case neg =>
    have hsm' : ¬ (rj : Int) < waysM b' n (rs.getD j []) := by omega
    simp (disch := omega) only [r_ln, r_pick, r_pickT, r_pickF, r_condT, r_condF, r_gdTT, r_gdFF, r_gdTF, r_gdFT, r_gqTT, r_gqFF, r_gqTF, r_gqFT, r_not, r_lss, r_leq, r_gtr, r_geq, r_eql, r_neq, r_add, r_sub, r_min2, r_max2, r_min3, r_max3, r_fa, r_iaS, r_iaA, r_ex2a, r_ex2b, r_ex3a, r_ex3b, r_ex3c, r_nc, r_keepE, Nat.zero_add, Nat.add_zero, Nat.mul_one, Int.toNat_natCast, toNat_sub1, toNat_add1, decide_true, decide_false, Bool.not_true, Bool.not_false, if_true, if_false, Bool.false_eq_true, reduceCtorEq, hsm']
    refine ⟨⟨j + 1, rj - (allE b' n (rs.getD j [])).length, by omega, by go_num, congrArg (Value.int .i64) (by omega), hF3, (hcq.trans (Chg.of_kp hkq2)).trans hc3, pm3, ?_, ?_, by omega⟩, by simp only [intOf]; omega⟩
    · rw [hdf, List.length_append, List.length_map] at hrj
      omega
    · rw [hdf, List.getElem?_append_right (by rw [List.length_map]; omega), List.length_map] at hseq
      exact hseq
  have hsm' : (rj : Int) < waysM b' n (rs.getD j []) := by omega
  rw [hdf, List.getElem?_append_left (by rw [List.length_map]; exact hsm), List.getElem?_map] at hseq
  simp (disch := omega) only [r_ln, r_pick, r_pickT, r_pickF, r_condT, r_condF, r_gdTT, r_gdFF, r_gdTF, r_gdFT, r_gqTT, r_gqFF, r_gqTF, r_gqFT, r_not, r_lss, r_leq, r_gtr, r_geq, r_eql, r_neq, r_add, r_sub, r_min2, r_max2, r_min3, r_max3, r_fa, r_iaS, r_iaA, r_ex2a, r_ex2b, r_ex3a, r_ex3b, r_ex3c, r_nc, r_keepE, Nat.zero_add, Nat.add_zero, Nat.mul_one, Int.toNat_natCast, toNat_sub1, toNat_add1, decide_true, decide_false, Bool.not_true, Bool.not_false, if_true, if_false, Bool.false_eq_true, reduceCtorEq, hsm']
  refine r_drew fun q4 hq4 _ => ?_
  have hbq4 := block_below hby0 (Kp.trans hky3 hq4)
  have hF4 := hF3.kp hq4
  have hbl : ∀ k, t8.ownBlock = some k → z1.heap.size ≤ k := fun k hk => owned_block hFq.outer hk
  obtain ⟨X, hX⟩ : ∃ X : Nat → Prop, X = fun k => t8.ownBlock = some k ∧ ∃ o, q4.heap[k]? = some (.cells o 36 (0, 0)) := ⟨_, rfl⟩
  refine ⟨X, ?_⟩
  obtain ⟨i0, i1, i2⟩ := box3 hbq4
  have g11r := block_below g11q hq4
  have nX : ¬ X b := by
    rw [hX]; exact fun ⟨_, o, e⟩ => by rw [hbq4] at e; cases e
  have n11X : ¬ X b11 := by
    rw [hX]; exact fun ⟨_, o, e⟩ => by rw [g11r] at e; cases e
  have hl4v : (Value.agg (intCells (rs.getD j [])).toArray).cells.size = 4 := by rw [rowV_size]; exact hl4
  simp (disch := omega) only [r_ln, r_pick, r_pickT, r_pickF, r_condT, r_condF, r_gdTT, r_gdFF, r_gdTF, r_gdFT, r_gqTT, r_gqFF, r_gqTF, r_gqFT, r_not, r_lss, r_leq, r_gtr, r_geq, r_eql, r_neq, r_add, r_sub, r_min2, r_max2, r_min3, r_max3, r_fa, r_iaS, r_iaA, r_ex2a, r_ex2b, r_ex3a, r_ex3b, r_ex3c, r_nc, r_keepE, Nat.zero_add, Nat.add_zero, Nat.mul_one, Int.toNat_natCast, toNat_sub1, toNat_add1, decide_true, decide_false, Bool.not_true, Bool.not_false, if_true, if_false, Bool.false_eq_true, reduceCtorEq, r_tx, r_txl (X := X) i1 nX, r_slA4to b' hb4, r_txn (X := X) g11r hl4v n11X]
  obtain ⟨hl5, hab5⟩ := hmem _ hrm
  refine r_use fok59 (clone_calls _ _ q4 (rd_blockTo (r := rs.getD j []) (n := b') g11r (by omega) (by omega)) (by omega) (by omega)) rfl ?_
  rintro _ q5 ⟨bc, cc, ccur, rfl, hq5, hbc, gbc, hread⟩
  refine ⟨_, rfl, BX.of_below hq5, ?_⟩
  dsimp only
  rw [bs26]
  refine ⟨BX.of_below (below_alloc _), ?_⟩
  have n6 := heap_alloc_new q5 (.cells #[.slice (some ⟨bc, 0, none⟩) ((rs.getD j []).take b').length cc] 36)
  have hq6 : Kp q5 (q5.alloc (.cells #[.slice (some ⟨bc, 0, none⟩) ((rs.getD j []).take b').length cc] 36)) := below_alloc _
  generalize q5.alloc (.cells #[.slice (some ⟨bc, 0, none⟩) ((rs.getD j []).take b').length cc] 36) = q6 at *
  have hF6 := (hF4.kp hq5).kp hq6
  have s4 := hq4.size
  have s5 := hq5.size
  have s6 := hq6.size
  refine r_apF hF6 n6 (by omega) (block_below gbc hq6) hread (fun q hq e => by
      obtain ⟨_, rc, x1, _⟩ := hF4.row q hq
      have := block_lt x1
      omega) (by omega) (by omega) fun v' q7 hF7 hg7 => ?_
  have hch7 : Chg (fun k => t8.ownBlock = some k ∧ ∃ o, q4.heap[k]? = some (.cells o 36 (0, 0))) q6 q7 := Chg.of_grown hg7 fun k hk => by
    refine ⟨hk, ?_⟩
    rcases hF4.outer.2 with ⟨rfl, _⟩ | ⟨g, cap, cur, rfl, _, hgg, _⟩
    · simp [Value.ownBlock] at hk
    · simp [Value.ownBlock] at hk; subst hk; exact ⟨cur, hgg⟩
  rw [hX]
  refine ⟨BX.of_chg hch7, ?_⟩
  dsimp only
  have p9q7 : q7.heap[b9]? = some (.cells (intCells last).toArray 80 (0, 0)) := by
    refine hch7.at (block_below (block_below (block_below (hc3.at (block_below p9q hkq2) (Ne.symm nm9)) hq4) hq5) hq6) fun ⟨_, o, e⟩ => ?_
    rw [block_below (hc3.at (block_below p9q hkq2) (Ne.symm nm9)) hq4] at e; cases e
  have p7q7 : q7.heap[b7]? = some (.cells (counterV a b' c m).cells 77 (0, 0)) := by
    refine hch7.at (block_below (block_below (block_below (hc3.at (block_below p7q hkq2) (Ne.symm nm7)) hq4) hq5) hq6) fun ⟨_, o, e⟩ => ?_
    rw [block_below (hc3.at (block_below p7q hkq2) (Ne.symm nm7)) hq4] at e; cases e
  have pm7 : MemoAt q7 m (knownF b') := by
    refine (((pm3.kp hq4).kp hq5).kp hq6).chg hch7 fun ⟨e, _⟩ => ?_
    have := hbl m e; omega
  have hky7 : Kp y0 q7 := Kp.of_chg (Kp.trans (Kp.trans (Kp.trans hky3 hq4) hq5) hq6) hch7 fun k ⟨e, _⟩ => by have := hbl k e; omega
  have s7 := hch7.size
  try simp (disch := omega) only [r_ln, r_pick, r_pickT, r_pickF, r_condT, r_condF, r_gdTT, r_gdFF, r_gdTF, r_gdFT, r_gqTT, r_gqFF, r_gqTF, r_gqFT, r_not, r_lss, r_leq, r_gtr, r_geq, r_eql, r_neq, r_add, r_sub, r_min2, r_max2, r_min3, r_max3, r_fa, r_iaS, r_iaA, r_ex2a, r_ex2b, r_ex3a, r_ex3b, r_ex3c, r_nc, r_keepE, Nat.zero_add, Nat.add_zero, Nat.mul_one, Int.toNat_natCast, toNat_sub1, toNat_add1, decide_true, decide_false, Bool.not_true, Bool.not_false, if_true, if_false, Bool.false_eq_true, reduceCtorEq, r_tx]
  refine r_stAll (n := 4) (ty := 80) (by kernel_rfl) hl4v (rowV_one _) p9q7 (by simp [intCells, hal]) fun q8 hc8 hs8 g8 => ?_
  have hb9z : b9 < z1.heap.size := block_lt g9'
  refine hk3 _ _ _ ⟨rj, rows ++ [(rs.getD j []).take b'], rs.getD j [], _, _, rfl, by simp [hrl], hF7.chg' hc8 fun k e => by omega, Kp.of_chg hky7 hc8 fun k e => by omega, hc8.at p7q7 n79, g8, pm7.chg hc8 nm9, by omega, ?_, (hfr _ hrm).2, fun q hq => ?_, hsm, fun t ht => ?_⟩
  · simpa using hab5
  · by_cases hqi : q < i
    · rw [getD_append_left' (by omega)]; exact hrows q hqi
    · have : q = rows.length := by omega
      subst this
      rw [getD_append_last]; exact hl5
  · rw [ht] at hseq
    have := hsel _ hseq.symm
    simpa using this

end Go.Proofs.Ytaephdjmpmbfpaa

/- Contracts: Copy, Same, Volume of the specification. -/
namespace Go.Proofs.Ytaephdjmpmbfpaa
open Go.Lf Go.RowKit Go.Hp

theorem intCells_get {l : List Int} {j : Nat} (h : j < l.length) : (intCells l)[j]? = some (.int .i64 (l.getD j 0)) := by
  simp [intCells, h]

set_option maxRecDepth 100000 in
/-- Copy of rows that are not empty: new rows. -/
theorem copyN_calls (v : Value) (h : List (List Int)) (w : World) (hr : RdRows w v h) (h0 : 0 < h.length) (hl : h.length ≤ 1000) (hrow : ∀ i, i < h.length → 0 < (h.getD i []).length ∧ (h.getD i []).length ≤ 1000) :
    Calls Try.prog 22 #[v] w fun e w' => ∃ v', e = .returned v' ∧ Kp w w' ∧ NewRows w w' v' h := by
  obtain ⟨va, vc, rfl, _⟩ := hr.len
  refine lift22 ?_
  unfold S22
  refine ⟨fun t3 t4 wr => ∃ (i : Nat) (bs cs : Nat → Nat), i ≤ h.length ∧ t4 = .int .i64 i ∧ Kp w wr ∧ FRows w.heap.size wr t3 bs cs (h.take i), fun _ t4 _ => h.length - (intOf t4).toNat,
    ⟨0, fun _ => 0, fun _ => 0, by omega, rfl, Kp.refl _, by simpa using FRows.nil _ _ _ _⟩, ?_⟩
  rintro _ t3 _ wr ⟨i, bs, cs, hi, rfl, hk, hF⟩
  by_cases hlt : i < h.length
  case neg =>
    have hlt' : ¬ (i : Int) < (h.length : Int) := by omega
    have e : i = h.length := by omega
    subst e
    simp (disch := omega) only [r_ln, r_pick, r_pickT, r_pickF, r_condT, r_condF, r_gdTT, r_gdFF, r_gdTF, r_gdFT, r_gqTT, r_gqFF, r_gqTF, r_gqFT, r_not, r_lss, r_leq, r_gtr, r_geq, r_eql, r_neq, r_add, r_sub, r_min2, r_max2, r_min3, r_max3, r_fa, r_iaS, r_iaA, r_ex2a, r_ex2b, r_ex3a, r_ex3b, r_ex3c, r_nc, r_keepE, Nat.zero_add, Nat.add_zero, Nat.mul_one, Int.toNat_natCast, toNat_sub1, toNat_add1, decide_true, decide_false, Bool.not_true, Bool.not_false, if_true, if_false, Bool.false_eq_true, reduceCtorEq, hlt']
    rw [List.take_length] at hF
    exact ⟨t3, rfl, hk, hF.new h0 (Nat.le_refl _) ⟨by omega, fun i hi => by have := (hrow i hi).2; omega⟩⟩
  have hlt' : (i : Int) < (h.length : Int) := by omega
  obtain ⟨b, off, cap, rv, he, hc, hri⟩ := (hr.below hk).row hlt
  cases he
  simp (disch := omega) only [r_ln, r_pick, r_pickT, r_pickF, r_condT, r_condF, r_gdTT, r_gdFF, r_gdTF, r_gdFT, r_gqTT, r_gqFF, r_gqTF, r_gqFT, r_not, r_lss, r_leq, r_gtr, r_geq, r_eql, r_neq, r_add, r_sub, r_min2, r_max2, r_min3, r_max3, r_fa, r_iaS, r_iaA, r_ex2a, r_ex2b, r_ex3a, r_ex3b, r_ex3c, r_nc, r_keepE, Nat.zero_add, Nat.add_zero, Nat.mul_one, Int.toNat_natCast, toNat_sub1, toNat_add1, decide_true, decide_false, Bool.not_true, Bool.not_false, if_true, if_false, Bool.false_eq_true, reduceCtorEq, hlt', r_ld hc]
  obtain ⟨hp, hp2⟩ := hrow i hlt
  refine r_apInts (base := wr.heap.size) (n := 0) (v := .slice none 0 0) (xs := []) (World.ownsRow_nil _ _ _ _) hri (by omega) (Nat.le_refl _) fun v' w2 ho hg => ?_
  have hk2 : Kp wr w2 := Below.grown (Kp.refl _) hg (Nat.le_refl _) fun k hk' => by simp [Value.ownBlock] at hk'
  rw [Nat.zero_add, List.nil_append] at ho
  rcases ho.2 with ⟨rfl, h'⟩ | ⟨g, cap', cur, rfl, hb, hg', hle', hm, hs, ht⟩
  · omega
  have hread : ∀ j, j < (h.getD i []).length → cur[j]? = some (.int .i64 ((h.getD i []).getD j 0)) := fun j hj => by
    have : cur.toList[j]? = (intCells (h.getD i []))[j]? := by rw [← ht, List.getElem?_take, if_pos (by omega)]
    rw [← Array.getElem?_toList, this, intCells_get hj]
  rw [bs26]
  have n3 := heap_alloc_new w2 (.cells #[.slice (some ⟨g, 0, none⟩) (h.getD i []).length cap'] 36)
  have hk3 : Kp w2 (w2.alloc (.cells #[.slice (some ⟨g, 0, none⟩) (h.getD i []).length cap'] 36)) := below_alloc _
  generalize w2.alloc (.cells #[.slice (some ⟨g, 0, none⟩) (h.getD i []).length cap'] 36) = w3 at *
  have hF3 := (hF.kp hk2).kp hk3
  have s1 := hk.size
  have s2 := hk2.size
  have s3 := hk3.size
  have htl : (h.take i).length = i := by simp; omega
  refine r_apF hF3 n3 (by omega) (block_below hg' hk3) hread (fun q hq e => by
      obtain ⟨_, rc, x1, _⟩ := hF.row q hq
      have := block_lt x1
      omega) (by omega) (by omega) fun v' w4 hF4 hg4 => ?_
  try simp (disch := omega) only [r_ln, r_pick, r_pickT, r_pickF, r_condT, r_condF, r_gdTT, r_gdFF, r_gdTF, r_gdFT, r_gqTT, r_gqFF, r_gqTF, r_gqFT, r_not, r_lss, r_leq, r_gtr, r_geq, r_eql, r_neq, r_add, r_sub, r_min2, r_max2, r_min3, r_max3, r_fa, r_iaS, r_iaA, r_ex2a, r_ex2b, r_ex3a, r_ex3b, r_ex3c, r_nc, r_keepE, Nat.zero_add, Nat.add_zero, Nat.mul_one, Int.toNat_natCast, toNat_sub1, toNat_add1, decide_true, decide_false, Bool.not_true, Bool.not_false, if_true, if_false, Bool.false_eq_true, reduceCtorEq]
  have e : h.take i ++ [h.getD i []] = h.take (i + 1) := by rw [take_succ' _ _ hlt, getD_lt _ _ _ hlt]
  rw [e] at hF4
  exact ⟨⟨i + 1, _, _, by omega, by go_num, Below.grown (Kp.trans (Kp.trans hk hk2) hk3) hg4 (by omega) fun k hk' => owned_block hF.outer hk', hF4⟩, by simp only [intOf]; omega⟩

set_option maxRecDepth 100000 in
theorem same_calls (v1 v2 : Value) (h1 h2 : List (List Int)) (w : World) (hr1 : RdRows w v1 h1) (hr2 : RdRows w v2 h2) :
    Calls Try.prog 20 #[v1, v2] w fun e w' => e = .returned (.bool (decide (h1 = h2))) ∧ Kp w w' := by
  obtain ⟨a1, c1, rfl, hl1⟩ := hr1.len
  obtain ⟨a2, c2, rfl, hl2⟩ := hr2.len
  refine lift20 ?_
  unfold S20
  by_cases hne : (h1.length : Int) = h2.length
  case neg =>
    simp (disch := omega) only [r_ln, r_pick, r_pickT, r_pickF, r_condT, r_condF, r_gdTT, r_gdFF, r_gdTF, r_gdFT, r_gqTT, r_gqFF, r_gqTF, r_gqFT, r_not, r_lss, r_leq, r_gtr, r_geq, r_eql, r_neq, r_add, r_sub, r_min2, r_max2, r_min3, r_max3, r_fa, r_iaS, r_iaA, r_ex2a, r_ex2b, r_ex3a, r_ex3b, r_ex3c, r_nc, r_keepE, Nat.zero_add, Nat.add_zero, Nat.mul_one, Int.toNat_natCast, toNat_sub1, toNat_add1, decide_true, decide_false, Bool.not_true, Bool.not_false, if_true, if_false, Bool.false_eq_true, reduceCtorEq, hne]
    exact ⟨ret_bool (decide_eq_false (fun e => hne (by rw [e]))).symm, Kp.refl _⟩
  simp (disch := omega) only [r_ln, r_pick, r_pickT, r_pickF, r_condT, r_condF, r_gdTT, r_gdFF, r_gdTF, r_gdFT, r_gqTT, r_gqFF, r_gqTF, r_gqFT, r_not, r_lss, r_leq, r_gtr, r_geq, r_eql, r_neq, r_add, r_sub, r_min2, r_max2, r_min3, r_max3, r_fa, r_iaS, r_iaA, r_ex2a, r_ex2b, r_ex3a, r_ex3b, r_ex3c, r_nc, r_keepE, Nat.zero_add, Nat.add_zero, Nat.mul_one, Int.toNat_natCast, toNat_sub1, toNat_add1, decide_true, decide_false, Bool.not_true, Bool.not_false, if_true, if_false, Bool.false_eq_true, reduceCtorEq, hne]
  refine ⟨fun t5 wr => ∃ i : Nat, i ≤ h1.length ∧ t5 = .int .i64 i ∧ Kp w wr ∧ ∀ k, k < i → h1.getD k [] = h2.getD k [], fun t5 _ => h1.length - (intOf t5).toNat, ⟨0, by omega, rfl, Kp.refl _, by omega⟩, ?_⟩
  rintro _ _ wr ⟨i, hi, rfl, hk, hprev⟩
  by_cases hlt : i < h1.length
  case neg =>
    have hlt' : ¬ (i : Int) < (h2.length : Int) := by omega
    simp (disch := omega) only [r_ln, r_pick, r_pickT, r_pickF, r_condT, r_condF, r_gdTT, r_gdFF, r_gdTF, r_gdFT, r_gqTT, r_gqFF, r_gqTF, r_gqFT, r_not, r_lss, r_leq, r_gtr, r_geq, r_eql, r_neq, r_add, r_sub, r_min2, r_max2, r_min3, r_max3, r_fa, r_iaS, r_iaA, r_ex2a, r_ex2b, r_ex3a, r_ex3b, r_ex3c, r_nc, r_keepE, Nat.zero_add, Nat.add_zero, Nat.mul_one, Int.toNat_natCast, toNat_sub1, toNat_add1, decide_true, decide_false, Bool.not_true, Bool.not_false, if_true, if_false, Bool.false_eq_true, reduceCtorEq, hlt']
    refine ⟨ret_bool (decide_eq_true ?_).symm, hk⟩
    refine List.ext_getElem (by omega) fun k x1 x2 => ?_
    have := hprev k (by omega)
    rwa [getD_lt _ _ _ x1, getD_lt _ _ _ x2] at this
  have hlt' : (i : Int) < (h2.length : Int) := by omega
  obtain ⟨b1, o1, _, rv1, e1, hc1, hrow1⟩ := (hr1.below hk).row hlt
  cases e1
  obtain ⟨b2, o2, _, rv2, e2, hc2, hrow2⟩ := (hr2.below hk).row (i := i) (by omega)
  cases e2
  obtain ⟨ra1, rc1, rfl, hrl1⟩ := hrow1.len
  obtain ⟨ra2, rc2, rfl, hrl2⟩ := hrow2.len
  simp (disch := omega) only [r_ln, r_pick, r_pickT, r_pickF, r_condT, r_condF, r_gdTT, r_gdFF, r_gdTF, r_gdFT, r_gqTT, r_gqFF, r_gqTF, r_gqFT, r_not, r_lss, r_leq, r_gtr, r_geq, r_eql, r_neq, r_add, r_sub, r_min2, r_max2, r_min3, r_max3, r_fa, r_iaS, r_iaA, r_ex2a, r_ex2b, r_ex3a, r_ex3b, r_ex3c, r_nc, r_keepE, Nat.zero_add, Nat.add_zero, Nat.mul_one, Int.toNat_natCast, toNat_sub1, toNat_add1, decide_true, decide_false, Bool.not_true, Bool.not_false, if_true, if_false, Bool.false_eq_true, reduceCtorEq, hlt']
  refine r_drew fun wa hka _ => ?_
  have hc1a := cell_later hka hc1
  have hc2a := cell_later hka hc2
  by_cases hrl : ((h1.getD i []).length : Int) = (h2.getD i []).length
  case neg =>
    simp (disch := omega) only [r_ln, r_pick, r_pickT, r_pickF, r_condT, r_condF, r_gdTT, r_gdFF, r_gdTF, r_gdFT, r_gqTT, r_gqFF, r_gqTF, r_gqFT, r_not, r_lss, r_leq, r_gtr, r_geq, r_eql, r_neq, r_add, r_sub, r_min2, r_max2, r_min3, r_max3, r_fa, r_iaS, r_iaA, r_ex2a, r_ex2b, r_ex3a, r_ex3b, r_ex3c, r_nc, r_keepE, Nat.zero_add, Nat.add_zero, Nat.mul_one, Int.toNat_natCast, toNat_sub1, toNat_add1, decide_true, decide_false, Bool.not_true, Bool.not_false, if_true, if_false, Bool.false_eq_true, reduceCtorEq, r_ld hc1a, r_ld hc2a, hrl]
    exact ⟨ret_bool (decide_eq_false (fun e => hrl (by rw [e]))).symm, Kp.trans hk hka⟩
  simp (disch := omega) only [r_ln, r_pick, r_pickT, r_pickF, r_condT, r_condF, r_gdTT, r_gdFF, r_gdTF, r_gdFT, r_gqTT, r_gqFF, r_gqTF, r_gqFT, r_not, r_lss, r_leq, r_gtr, r_geq, r_eql, r_neq, r_add, r_sub, r_min2, r_max2, r_min3, r_max3, r_fa, r_iaS, r_iaA, r_ex2a, r_ex2b, r_ex3a, r_ex3b, r_ex3c, r_nc, r_keepE, Nat.zero_add, Nat.add_zero, Nat.mul_one, Int.toNat_natCast, toNat_sub1, toNat_add1, decide_true, decide_false, Bool.not_true, Bool.not_false, if_true, if_false, Bool.false_eq_true, reduceCtorEq, r_ld hc1a, r_ld hc2a, hrl]
  refine ⟨fun t6 wq => ∃ j : Nat, j ≤ (h1.getD i []).length ∧ t6 = .int .i64 j ∧ Kp wa wq ∧ ∀ k, k < j → (h1.getD i []).getD k 0 = (h2.getD i []).getD k 0, fun t6 _ => (h1.getD i []).length - (intOf t6).toNat, ⟨0, by omega, rfl, Kp.refl _, by omega⟩, ?_⟩
  rintro _ _ wq ⟨j, hj, rfl, hkq, hpj⟩
  have hc1q := cell_later hkq hc1a
  have hc2q := cell_later hkq hc2a
  by_cases hjl : j < (h1.getD i []).length
  case neg =>
    have hjl' : ¬ (j : Int) < ((h2.getD i []).length : Int) := by omega
    have hjl2 : ¬ (j : Int) < ((h1.getD i []).length : Int) := by omega
    simp (disch := omega) only [r_ln, r_pick, r_pickT, r_pickF, r_condT, r_condF, r_gdTT, r_gdFF, r_gdTF, r_gdFT, r_gqTT, r_gqFF, r_gqTF, r_gqFT, r_not, r_lss, r_leq, r_gtr, r_geq, r_eql, r_neq, r_add, r_sub, r_min2, r_max2, r_min3, r_max3, r_fa, r_iaS, r_iaA, r_ex2a, r_ex2b, r_ex3a, r_ex3b, r_ex3c, r_nc, r_keepE, Nat.zero_add, Nat.add_zero, Nat.mul_one, Int.toNat_natCast, toNat_sub1, toNat_add1, decide_true, decide_false, Bool.not_true, Bool.not_false, if_true, if_false, Bool.false_eq_true, reduceCtorEq, r_ld hc1q, hjl', hjl2]
    refine ⟨⟨i + 1, by omega, by go_num, Kp.trans (Kp.trans hk hka) hkq, fun k hk' => ?_⟩, by simp only [intOf]; omega⟩
    by_cases hki : k < i
    · exact hprev k hki
    · have : k = i := by omega
      subst this
      refine List.ext_getElem (by omega) fun m x1 x2 => ?_
      have := hpj m (by omega)
      rwa [getD_lt _ _ _ x1, getD_lt _ _ _ x2] at this
  have hjl' : (j : Int) < ((h2.getD i []).length : Int) := by omega
  have hjl2 : (j : Int) < ((h1.getD i []).length : Int) := by omega
  simp (disch := omega) only [r_ln, r_pick, r_pickT, r_pickF, r_condT, r_condF, r_gdTT, r_gdFF, r_gdTF, r_gdFT, r_gqTT, r_gqFF, r_gqTF, r_gqFT, r_not, r_lss, r_leq, r_gtr, r_geq, r_eql, r_neq, r_add, r_sub, r_min2, r_max2, r_min3, r_max3, r_fa, r_iaS, r_iaA, r_ex2a, r_ex2b, r_ex3a, r_ex3b, r_ex3c, r_nc, r_keepE, Nat.zero_add, Nat.add_zero, Nat.mul_one, Int.toNat_natCast, toNat_sub1, toNat_add1, decide_true, decide_false, Bool.not_true, Bool.not_false, if_true, if_false, Bool.false_eq_true, reduceCtorEq, r_ld hc1q, hjl', hjl2]
  refine r_drew fun wb hkb _ => ?_
  have hc1b := cell_later hkb hc1q
  have hc2b := cell_later hkb hc2q
  obtain ⟨x1, y1, _, e1, hx1⟩ := (hrow1.below (Kp.trans hka (Kp.trans hkq hkb))).at hjl
  cases e1
  obtain ⟨x2, y2, _, e2, hx2⟩ := (hrow2.below (Kp.trans hka (Kp.trans hkq hkb))).at (j := j) (by omega)
  cases e2
  by_cases he : (h1.getD i []).getD j 0 = (h2.getD i []).getD j 0
  · simp (disch := omega) only [r_ln, r_pick, r_pickT, r_pickF, r_condT, r_condF, r_gdTT, r_gdFF, r_gdTF, r_gdFT, r_gqTT, r_gqFF, r_gqTF, r_gqFT, r_not, r_lss, r_leq, r_gtr, r_geq, r_eql, r_neq, r_add, r_sub, r_min2, r_max2, r_min3, r_max3, r_fa, r_iaS, r_iaA, r_ex2a, r_ex2b, r_ex3a, r_ex3b, r_ex3c, r_nc, r_keepE, Nat.zero_add, Nat.add_zero, Nat.mul_one, Int.toNat_natCast, toNat_sub1, toNat_add1, decide_true, decide_false, Bool.not_true, Bool.not_false, if_true, if_false, Bool.false_eq_true, reduceCtorEq, r_ld hc1b, r_ld hc2b, r_ld hx1, r_ld hx2, he]
    refine ⟨⟨j + 1, by omega, by go_num, Kp.trans hkq hkb, fun k hk' => ?_⟩, by simp only [intOf]; omega⟩
    by_cases hkj : k < j
    · exact hpj k hkj
    · have : k = j := by omega
      subst this; exact he
  · simp (disch := omega) only [r_ln, r_pick, r_pickT, r_pickF, r_condT, r_condF, r_gdTT, r_gdFF, r_gdTF, r_gdFT, r_gqTT, r_gqFF, r_gqTF, r_gqFT, r_not, r_lss, r_leq, r_gtr, r_geq, r_eql, r_neq, r_add, r_sub, r_min2, r_max2, r_min3, r_max3, r_fa, r_iaS, r_iaA, r_ex2a, r_ex2b, r_ex3a, r_ex3b, r_ex3c, r_nc, r_keepE, Nat.zero_add, Nat.add_zero, Nat.mul_one, Int.toNat_natCast, toNat_sub1, toNat_add1, decide_true, decide_false, Bool.not_true, Bool.not_false, if_true, if_false, Bool.false_eq_true, reduceCtorEq, r_ld hc1b, r_ld hc2b, r_ld hx1, r_ld hx2, he]
    exact ⟨ret_bool (decide_eq_false (fun e => he (by rw [e]))).symm, Kp.trans (Kp.trans hk hka) (Kp.trans hkq hkb)⟩

def volM (h : List (List Int)) : Int := (h.map List.sum).sum

theorem sum_le {M : Int} : ∀ (l : List Int), (∀ x ∈ l, 0 ≤ x ∧ x ≤ M) → 0 ≤ l.sum ∧ l.sum ≤ l.length * M
  | [], _ => by simp
  | x :: l, h => by
    have h1 := h x (by simp)
    have h2 := sum_le l fun y hy => h y (by simp [hy])
    simp only [List.sum_cons, List.length_cons]
    have e : ((l.length + 1 : Nat) : Int) * M = l.length * M + M := by rw [Int.natCast_add, Int.add_mul]; simp
    rw [e]; omega

theorem sum_takeI_succ {l : List Int} {i : Nat} (h : i < l.length) : (l.take (i + 1)).sum = (l.take i).sum + l.getD i 0 := by
  rw [take_succ' _ _ h, List.sum_append, getD_lt _ _ _ h]
  simp

theorem sum_takeH_succ {h : List (List Int)} {i : Nat} (hi : i < h.length) : ((h.map List.sum).take (i + 1)).sum = ((h.map List.sum).take i).sum + (h.getD i []).sum := by
  rw [sum_takeI_succ (by simpa using hi)]
  congr 1
  simp [List.getD_eq_getElem?_getD, hi]

set_option maxRecDepth 100000 in
theorem volume_calls (v : Value) (h : List (List Int)) (w : World) (hr : RdRows w v h) (hl : h.length ≤ 100) (hrow : ∀ i, i < h.length → (h.getD i []).length ≤ 100) (hpos : ∀ l ∈ h, ∀ x ∈ l, 0 ≤ x ∧ x ≤ 1000000) :
    Calls Try.prog 13 #[v] w fun e w' => e = .returned (.int .i64 (volM h)) ∧ Kp w w' := by
  obtain ⟨va, vc, rfl, _⟩ := hr.len
  refine lift13 ?_
  unfold S13
  have hrs : ∀ i, i < h.length → ∀ j, 0 ≤ ((h.getD i []).take j).sum ∧ ((h.getD i []).take j).sum ≤ 100000000 := fun i hi j => by
    have hm : h.getD i [] ∈ h := by rw [getD_lt _ _ _ hi]; exact List.getElem_mem hi
    have := sum_le (M := 1000000) ((h.getD i []).take j) fun x hx => hpos _ hm x (List.mem_of_mem_take hx)
    have h2 := hrow i hi
    have h3 : ((h.getD i []).take j).length ≤ 100 := by rw [List.length_take]; omega
    omega
  have hst : ∀ i, i ≤ h.length → 0 ≤ ((h.map List.sum).take i).sum ∧ ((h.map List.sum).take i).sum ≤ 10000000000 := fun i hi => by
    have := sum_le (M := 100000000) ((h.map List.sum).take i) fun x hx => by
      obtain ⟨l, hlm, rfl⟩ := List.mem_map.1 (List.mem_of_mem_take hx)
      obtain ⟨q, hq, e⟩ := List.getElem_of_mem hlm
      have := hrs q hq l.length
      rw [getD_lt _ _ _ hq, e, List.take_length] at this
      exact this
    have h3 : ((h.map List.sum).take i).length ≤ 100 := by rw [List.length_take, List.length_map]; omega
    omega
  refine ⟨fun t3 t4 wr => ∃ i : Nat, i ≤ h.length ∧ t4 = .int .i64 i ∧ t3 = .int .i64 ((h.map List.sum).take i).sum ∧ w = wr, fun _ t4 _ => h.length - (intOf t4).toNat, ⟨0, by omega, rfl, by simp, rfl⟩, ?_⟩
  rintro _ _ _ _ ⟨i, hi, rfl, rfl, rfl⟩
  by_cases hlt : i < h.length
  case neg =>
    have hlt' : ¬ (i : Int) < (h.length : Int) := by omega
    have e : i = h.length := by omega
    subst e
    simp (disch := omega) only [r_ln, r_pick, r_pickT, r_pickF, r_condT, r_condF, r_gdTT, r_gdFF, r_gdTF, r_gdFT, r_gqTT, r_gqFF, r_gqTF, r_gqFT, r_not, r_lss, r_leq, r_gtr, r_geq, r_eql, r_neq, r_add, r_sub, r_min2, r_max2, r_min3, r_max3, r_fa, r_iaS, r_iaA, r_ex2a, r_ex2b, r_ex3a, r_ex3b, r_ex3c, r_nc, r_keepE, Nat.zero_add, Nat.add_zero, Nat.mul_one, Int.toNat_natCast, toNat_sub1, toNat_add1, decide_true, decide_false, Bool.not_true, Bool.not_false, if_true, if_false, Bool.false_eq_true, reduceCtorEq, hlt']
    rw [List.take_of_length_le (by simp)]
    exact ⟨rfl, Kp.refl _⟩
  have hlt' : (i : Int) < (h.length : Int) := by omega
  simp (disch := omega) only [r_ln, r_pick, r_pickT, r_pickF, r_condT, r_condF, r_gdTT, r_gdFF, r_gdTF, r_gdFT, r_gqTT, r_gqFF, r_gqTF, r_gqFT, r_not, r_lss, r_leq, r_gtr, r_geq, r_eql, r_neq, r_add, r_sub, r_min2, r_max2, r_min3, r_max3, r_fa, r_iaS, r_iaA, r_ex2a, r_ex2b, r_ex3a, r_ex3b, r_ex3c, r_nc, r_keepE, Nat.zero_add, Nat.add_zero, Nat.mul_one, Int.toNat_natCast, toNat_sub1, toNat_add1, decide_true, decide_false, Bool.not_true, Bool.not_false, if_true, if_false, Bool.false_eq_true, reduceCtorEq, hlt']
  obtain ⟨b, off, cap, rv, he, hc, hri⟩ := hr.row hlt
  cases he
  obtain ⟨ra, rc, rfl, _⟩ := hri.len
  refine ⟨fun t3 t5 wr => ∃ j : Nat, j ≤ (h.getD i []).length ∧ t5 = .int .i64 j ∧ t3 = .int .i64 (((h.map List.sum).take i).sum + ((h.getD i []).take j).sum) ∧ w = wr, fun _ t5 _ => (h.getD i []).length - (intOf t5).toNat, ⟨0, by omega, rfl, by simp, rfl⟩, ?_⟩
  rintro _ _ _ _ ⟨j, hj, rfl, rfl, rfl⟩
  have s1 := hst i hi
  have s2 := hrs i hlt j
  have s3 := hrs i hlt (j + 1)
  by_cases hjl : j < (h.getD i []).length
  case neg =>
    have hjl' : ¬ (j : Int) < ((h.getD i []).length : Int) := by omega
    simp (disch := omega) only [r_ln, r_pick, r_pickT, r_pickF, r_condT, r_condF, r_gdTT, r_gdFF, r_gdTF, r_gdFT, r_gqTT, r_gqFF, r_gqTF, r_gqFT, r_not, r_lss, r_leq, r_gtr, r_geq, r_eql, r_neq, r_add, r_sub, r_min2, r_max2, r_min3, r_max3, r_fa, r_iaS, r_iaA, r_ex2a, r_ex2b, r_ex3a, r_ex3b, r_ex3c, r_nc, r_keepE, Nat.zero_add, Nat.add_zero, Nat.mul_one, Int.toNat_natCast, toNat_sub1, toNat_add1, decide_true, decide_false, Bool.not_true, Bool.not_false, if_true, if_false, Bool.false_eq_true, reduceCtorEq, r_ld hc, hjl']
    refine ⟨⟨i + 1, by omega, by go_num, ?_, trivial⟩, by simp only [intOf]; omega⟩
    rw [sum_takeH_succ hlt, List.take_of_length_le (l := h.getD i []) (by omega)]
  have hjl' : (j : Int) < ((h.getD i []).length : Int) := by omega
  obtain ⟨x1, y1, _, e1, hx1⟩ := hri.at hjl
  cases e1
  rw [sum_takeI_succ hjl] at s3
  simp (disch := omega) only [r_ln, r_pick, r_pickT, r_pickF, r_condT, r_condF, r_gdTT, r_gdFF, r_gdTF, r_gdFT, r_gqTT, r_gqFF, r_gqTF, r_gqFT, r_not, r_lss, r_leq, r_gtr, r_geq, r_eql, r_neq, r_add, r_sub, r_min2, r_max2, r_min3, r_max3, r_fa, r_iaS, r_iaA, r_ex2a, r_ex2b, r_ex3a, r_ex3b, r_ex3c, r_nc, r_keepE, Nat.zero_add, Nat.add_zero, Nat.mul_one, Int.toNat_natCast, toNat_sub1, toNat_add1, decide_true, decide_false, Bool.not_true, Bool.not_false, if_true, if_false, Bool.false_eq_true, reduceCtorEq, r_ld hc, hjl', r_ld hx1]
  exact ⟨⟨j + 1, by omega, by go_num, by rw [sum_takeI_succ hjl, Int.add_assoc], trivial⟩, by simp only [intOf]; omega⟩

end Go.Proofs.Ytaephdjmpmbfpaa

/- Contract: alive. -/
namespace Go.Proofs.Ytaephdjmpmbfpaa
open Go.Lf Go.RowKit Go.Hp

theorem bd25 (x y z : Int) (K : Value → Prop) : bdQ Try.prog 25 [(0, .int .i64 x), (1, .int .i64 y), (2, .int .i64 z)] K = K (boxV x y z) := by kernel_rfl
theorem bs36_2 (x y : Int) (w : World) (K : Value → World → Prop) : bsW Try.prog 36 2 [(0, .int .i64 x), (1, .int .i64 y)] w K = K (.slice (some ⟨w.heap.size, 0, none⟩) 2 2) (w.alloc (.cells #[.int .i64 x, .int .i64 y] 3)) := by kernel_rfl

theorem rd_pair {w : World} {b : Nat} {t : TypeId} {fr : Nat × Nat} {x y : Int} (h : w.heap[b]? = some (.cells #[.int .i64 x, .int .i64 y] t fr)) : RdInts w (.slice (some ⟨b, 0, none⟩) 2 2) [x, y] := by
  refine ⟨_, 2, rfl, by simp, fun _ => ⟨b, 0, rfl, fun i hi => ?_⟩⟩
  rw [Nat.zero_add, cell_row h]
  match i, hi with
  | 0, _ => rfl
  | 1, _ => rfl

theorem known_count : countN 2 2 2 = 20 := by decide +kernel
theorem known_paths : pathsN 2 2 2 = 20 := by decide +kernel
theorem known_err : boxErr 2 2 2 = 0 := by decide +kernel
theorem known_heap : heapErr 2 2 2 [[2, 1], [1, 0]] = 0 := by decide +kernel
theorem known_rank : rankM 2 2 2 [[2, 1], [1, 0]] 2 = 10 := by decide +kernel

set_option maxRecDepth 100000 in
theorem alive_calls (w : World) : Calls Try.prog 17 #[] w fun e w' => e = .returned (.bool true) ∧ Kp w w' := by
  refine lift17 ?_
  unfold S17
  rw [bd25]
  refine r_box fun b w1 e1 s1 h1 k1 => ?_
  refine r_stAll (n := 3) (ty := 25) (by kernel_rfl) rfl (by intro u hu; simp [Value.cells] at hu; rcases hu with rfl | rfl | rfl <;> rfl) h1 rfl fun w2 c2 s2 h2 => ?_
  have k2 : Kp w w2 := Kp.of_chg k1 c2 fun i e => by omega
  rw [r_ldRow (n := 3) h2 rfl]
  refine r_use fok21 (countf_calls 2 2 2 w2) rfl ?_
  rintro _ w3 ⟨rfl, k3⟩
  refine ⟨_, rfl, ?_⟩
  have h3 := block_below h2 k3
  simp only [r_ex2a, r_ex2b, known_count, known_err]
  rw [r_ldRow (n := 3) h3 rfl]
  refine r_use fok25 (paths_calls 2 2 2 w3) rfl ?_
  rintro _ w4 ⟨rfl, k4⟩
  refine ⟨_, rfl, ?_⟩
  have h4 := block_below h3 k4
  simp only [r_ex2a, r_ex2b, known_paths, known_err]
  rw [r_ldRow (n := 3) h4 rfl, bs36_2, bs36_2, bs26_2]
  have n5 := heap_alloc_new w4 (.cells #[.int .i64 2, .int .i64 1] 3)
  have k5 : Kp w4 (w4.alloc (.cells #[.int .i64 2, .int .i64 1] 3)) := below_alloc _
  generalize w4.alloc (.cells #[.int .i64 2, .int .i64 1] 3) = w5 at *
  have n6 := heap_alloc_new w5 (.cells #[.int .i64 1, .int .i64 0] 3)
  have k6 : Kp w5 (w5.alloc (.cells #[.int .i64 1, .int .i64 0] 3)) := below_alloc _
  generalize w5.alloc (.cells #[.int .i64 1, .int .i64 0] 3) = w6 at *
  have hrr := rd_two (rd_pair (block_below n5 k6)) (rd_pair n6) rfl
  refine r_use fok18 (rank_calls 2 2 2 _ [[2, 1], [1, 0]] _ hrr) rfl ?_
  rintro _ w7 ⟨rfl, k7⟩
  refine ⟨_, rfl, ?_⟩
  have e2 : (2 : Int).toNat = 2 := rfl
  simp (disch := omega) only [r_ln, r_pick, r_pickT, r_pickF, r_condT, r_condF, r_gdTT, r_gdFF, r_gdTF, r_gdFT, r_gqTT, r_gqFF, r_gqTF, r_gqFT, r_not, r_lss, r_leq, r_gtr, r_geq, r_eql, r_neq, r_add, r_sub, r_min2, r_max2, r_min3, r_max3, r_fa, r_iaS, r_iaA, r_ex2a, r_ex2b, r_ex3a, r_ex3b, r_ex3c, r_nc, r_keepE, Nat.zero_add, Nat.add_zero, Nat.mul_one, Int.toNat_natCast, toNat_sub1, toNat_add1, decide_true, decide_false, Bool.not_true, Bool.not_false, if_true, if_false, Bool.false_eq_true, reduceCtorEq, known_heap, e2, known_rank]
  exact ⟨trivial, Kp.trans (Kp.trans k2 (Kp.trans k3 k4)) (Kp.trans (Kp.trans k5 k6) (Kp.trans (below_alloc _) k7))⟩

end Go.Proofs.Ytaephdjmpmbfpaa
