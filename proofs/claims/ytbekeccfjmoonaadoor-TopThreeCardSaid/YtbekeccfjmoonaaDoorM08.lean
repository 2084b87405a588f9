/- Texts of my own, merged by program: Own Mem. -/
import Derived.Test.YtbekeccfjmoonaaDoorM07
set_option linter.all false
/- Memory of one's own: slices that grow, rows of integers that are written. -/
namespace Go.Proofs.YtbekeccfjmoonaaDoor
open Go.Lf Go.RowKit

/-- w' is w but for new blocks and for blocks of S. -/
structure Chg (S : Nat → Prop) (w w' : World) : Prop where
  os : w'.os = w.os
  tape : w'.tape = w.tape
  output : w'.output = w.output
  size : w.heap.size ≤ w'.heap.size
  block : ∀ k, k < w.heap.size → ¬ S k → w'.heap[k]? = w.heap[k]?

theorem Chg.refl (S : Nat → Prop) (w : World) : Chg S w w := ⟨rfl, rfl, rfl, Nat.le_refl _, fun _ _ _ => rfl⟩
theorem Chg.trans {S : Nat → Prop} {a b c : World} (h : Chg S a b) (k : Chg S b c) : Chg S a c :=
  ⟨k.os.trans h.os, k.tape.trans h.tape, k.output.trans h.output, Nat.le_trans h.size k.size, fun i hi hs => (k.block i (Nat.lt_of_lt_of_le hi h.size) hs).trans (h.block i hi hs)⟩
theorem Chg.mono {S S' : Nat → Prop} {a b : World} (h : Chg S a b) (hs : ∀ k, k < a.heap.size → S k → S' k) : Chg S' a b :=
  ⟨h.os, h.tape, h.output, h.size, fun i hi hn => h.block i hi fun hS => hn (hs i hi hS)⟩
theorem Chg.of_kp {S : Nat → Prop} {a b : World} (h : Kp a b) : Chg S a b := ⟨h.os, h.tape, h.output, h.size, fun i hi _ => h.block i hi⟩
theorem Chg.below {S : Nat → Prop} {B : Nat} {a b : World} (h : Chg S a b) (hB : B ≤ a.heap.size) (hs : ∀ k, S k → B ≤ k) : Below B a b :=
  ⟨h.os, h.tape, h.output, h.size, fun i hi => h.block i (by omega) fun hS => by have := hs i hS; omega⟩
theorem Chg.of_below {S : Nat → Prop} {B : Nat} {a b : World} (h : Below B a b) (hs : ∀ k, k < a.heap.size → B ≤ k → S k) : Chg S a b :=
  ⟨h.os, h.tape, h.output, h.size, fun i hi hn => h.block i (Nat.lt_of_not_le fun hle => hn (hs i hi hle))⟩
theorem Chg.of_grown {S : Nat → Prop} {a b : World} {row : Option Nat} (h : a.grownBy b row) (hs : ∀ k, row = some k → S k) : Chg S a b :=
  ⟨h.os, h.tape, h.output, h.size, fun i hi hn => h.block i hi fun e => hn (hs i e.symm)⟩
theorem Chg.cell {S : Nat → Prop} {a b : World} (h : Chg S a b) {p : Addr} {x : Value} (hc : a.cell? p = some x) (hn : ¬ S p.block) : b.cell? p = some x :=
  (World.cell?_of_block (h.block p.block (World.block_lt_of_cell? a p hc) hn)).trans hc
theorem Chg.at {S : Nat → Prop} {a b : World} (h : Chg S a b) {k : Nat} {o : Obj} (hk : a.heap[k]? = some o) (hn : ¬ S k) : b.heap[k]? = some o := (h.block k (block_lt hk) hn).trans hk
theorem Chg.setCell {S : Nat → Prop} (w : World) {p : Addr} (v : Value) (h : S p.block) : Chg S w (w.setCell p v) :=
  ⟨rfl, rfl, rfl, by simp [World.setCell], fun i _ hn => Below.heap_setCell _ _ _ _ (fun e => hn (by rw [e]; exact h))⟩
theorem Kp.of_chg {S : Nat → Prop} {a b c : World} (h : Kp a b) (k : Chg S b c) (hs : ∀ i, S i → a.heap.size ≤ i) : Kp a c :=
  Below.trans h (k.below h.size hs)

/-- A type of slices: what the program's table says of it. -/
structure SlT (t e : TypeId) (size bytes : Nat) : Prop where
  und : Tryd.prog.underlying t = some (.slice e)
  info : ∃ i z, Tryd.prog.info? e = some i ∧ i.zero = some z ∧ i.size = size ∧ i.bytes = bytes ∧ z.cells.size = size
  pos : 0 < size

theorem SlT.mk' {t e : TypeId} {size bytes : Nat} {z : Value} (h1 : Tryd.prog.underlying t = some (.slice e)) (h2 : (Tryd.prog.info? e).map (fun i => (i.zero, i.size, i.bytes)) = some (some z, size, bytes)) (h3 : z.cells.size = size) (h4 : 0 < size) : SlT t e size bytes := by
  obtain ⟨i, a, b, c, d⟩ := info_parts h2
  exact ⟨h1, ⟨i, z, a, b, c, d, h3⟩, h4⟩

set_option maxRecDepth 100000 in
/-- append(v, xs...) where v is one's own. -/
theorem r_ap {t e ty : TypeId} {size bytes base n m c : Nat} {v : Value} {xs news : List Value} {a : Addr} {w : World} {K : Value → World → Prop} (T : SlT t e size bytes)
    (hown : w.ownsRow base e size v n xs) (hl : news.length = m * size) (hnews : ∀ j u, news[j]? = some u → w.cell? (a.add j) = some u) (h1 : ∀ u ∈ news, u.oneCell' = true)
    (hn : n + m ≤ 1099511627776) (hby : bytes ≤ 128) (hb : base ≤ w.heap.size)
    (hk : ∀ v' w', w'.ownsRow base e size v' (n + m) (xs ++ news) → w.grownBy w' v.ownBlock → (v' = .slice none 0 0 ↔ v = .slice none 0 0 ∧ m = 0) → K v' w') : semW Tryd.prog (apS [t, t] ty [v, .slice (some a) m c]) w K := by
  obtain ⟨i, z, i1, i2, i3, i4, i5⟩ := T.info
  have hb2 : (n + m) * bytes ≤ 140737488355328 := by
    have h := Nat.mul_le_mul hn hby
    exact Nat.le_trans h (by decide)
  obtain ⟨v', w', hr, h2, h3, h4⟩ := run_append_own (P := Tryd.prog) w base t ty e i z size bytes T.und i1 i2 i3 i4 i5 T.pos v n xs hown a m c news hl hnews h1 (by unfold maxLen; omega) hb2 hb
  exact semW_of_run (by simp [apS, hr]) (hk v' w' h2 h3 h4)

set_option maxRecDepth 100000 in
/-- append(v, xs...), xs of no element, at whatever address or nil. -/
theorem r_ap0 {t e ty : TypeId} {size bytes base n c : Nat} {v : Value} {xs : List Value} {a : Option Addr} {w : World} {K : Value → World → Prop} (T : SlT t e size bytes)
    (hown : w.ownsRow base e size v n xs) (hk : K v w) : semW Tryd.prog (apS [t, t] ty [v, .slice a 0 c]) w K := by
  obtain ⟨i, z, i1, i2, i3, i4, i5⟩ := T.info
  refine semW_of_run (v := v) (w' := w) ?_ hk
  have hs : (sizeOf e).run Tryd.prog w = .ok size w := by simp [sizeOf, typeInfo, i1, i3]
  rcases hown.2 with ⟨rfl, rfl⟩ | ⟨g, cap, cur, rfl, _, _, hle, _⟩
  · cases a <;> simp [apS, Builtin.append_, run_underlying' T.und, hs, Builtin.lenOf, Builtin.firstCells, loadCells, loadCellsFrom]
  · cases a <;> simp [apS, Builtin.append_, run_underlying' T.und, hs, Builtin.lenOf, Builtin.firstCells, loadCells, loadCellsFrom, hle, storeCells]

theorem cells_at_row {w : World} {b : Nat} {cs : Array Value} {t : TypeId} {fr : Nat × Nat} (h : w.heap[b]? = some (.cells cs t fr)) : ∀ j u, cs.toList[j]? = some u → w.cell? ((⟨b, 0, none⟩ : Addr).add j) = some u := by
  intro j u hj
  rw [r_addr, cell_row h]
  simpa using hj

set_option maxRecDepth 100000 in
/-- append(v, x): the element in a block of its own first. -/
theorem r_push {t e ty : TypeId} {size bytes base n : Nat} {v x : Value} {xs : List Value} {w : World} {K : Value → World → Prop} (T : SlT t e size bytes)
    (hbs : ∀ K : Value → World → Prop, bsW Tryd.prog t 1 [(0, x)] w K = K (.slice (some ⟨w.heap.size, 0, none⟩) 1 1) (w.alloc (.cells x.cells e)))
    (hx : x.cells.size = size) (h1 : ∀ u ∈ x.cells.toList, u.oneCell' = true) (hown : w.ownsRow base e size v n xs) (hn : n + 1 ≤ 1099511627776) (hby : bytes ≤ 128) (hb : base ≤ w.heap.size)
    (hk : ∀ v' w', w'.ownsRow base e size v' (n + 1) (xs ++ x.cells.toList) → w.grownBy w' v.ownBlock → K v' w') :
    bsW Tryd.prog t 1 [(0, x)] w fun s w => semW Tryd.prog (apS [t, t] ty [v, s]) w K := by
  rw [hbs]
  refine r_ap T (hown.alloc _) (by simp [hx]) (cells_at_row (heap_alloc_new w _)) h1 hn hby (by show base ≤ (w.heap.push _).size; simp; omega) fun v' w' ho hg _ => hk v' w' ho ?_
  exact ⟨hg.os, hg.tape, hg.output, Nat.le_trans (by show _ ≤ (w.heap.push _).size; simp) hg.size, fun k hlt hne => (hg.block k (by show k < (w.heap.push _).size; simp; omega) hne).trans (Below.heap_alloc w _ k hlt)⟩

/-- What is owned stays so while other blocks turn. -/
theorem owns_chg {S : Nat → Prop} {w w' : World} {base n size : Nat} {e : TypeId} {v : Value} {xs : List Value} (h : w.ownsRow base e size v n xs) (hc : Chg S w w') (hs : ∀ k, v.ownBlock = some k → ¬ S k) : w'.ownsRow base e size v n xs := by
  refine ⟨h.1, ?_⟩
  rcases h.2 with h2 | ⟨g, cap, cur, rfl, hb, hg, r⟩
  · exact .inl h2
  · exact .inr ⟨g, cap, cur, rfl, hb, hc.at hg (hs g rfl), r⟩
theorem owns_kp {w w' : World} {base n size : Nat} {e : TypeId} {v : Value} {xs : List Value} (h : w.ownsRow base e size v n xs) (hk : Kp w w') : w'.ownsRow base e size v n xs :=
  owns_chg (S := fun _ => False) h (Chg.of_kp hk) fun _ _ h => h

theorem slt31 : SlT 31 3 1 8 := SlT.mk' (z := .int .i64 0) (by kernel_rfl) (by kernel_rfl) rfl (by decide)
theorem slt50 : SlT 50 31 1 24 := SlT.mk' (z := .slice none 0 0) (by kernel_rfl) (by kernel_rfl) rfl (by decide)
theorem bs50 (a : Option Addr) (n c : Nat) (w : World) (K : Value → World → Prop) : bsW Tryd.prog 50 1 [(0, .slice a n c)] w K = K (.slice (some ⟨w.heap.size, 0, none⟩) 1 1) (w.alloc (.cells #[.slice a n c] 31)) := by kernel_rfl
theorem bs31 (k : IntKind) (x : Int) (w : World) (K : Value → World → Prop) : bsW Tryd.prog 31 1 [(0, .int k x)] w K = K (.slice (some ⟨w.heap.size, 0, none⟩) 1 1) (w.alloc (.cells #[.int k x] 3)) := by kernel_rfl

theorem mkCells_one (z : Value) (n : Nat) : mkCells #[z] n = Array.replicate n z := by
  apply Array.ext
  · simp [mkCells]
  · intro i h1 h2
    simp [mkCells, Nat.mod_one]

/-- make([]int, n) -/
theorem mk31 {n : Nat} {w : World} {K : Value → World → Prop} (hn : n ≤ 1099511627776) (h : K (.slice (some ⟨w.heap.size, 0, none⟩) n n) (w.alloc (.cells (Array.replicate n (.int .i64 0)) 3))) :
    mkW Tryd.prog 31 (.int .i64 n) (.int .i64 n) w K := by
  have e : ∀ (l : Int) (K : Value → World → Prop), mkW Tryd.prog 31 (.int .i64 l) (.int .i64 l) w K = (0 ≤ l ∧ l ≤ l ∧ l ≤ 4611686018427387904 ∧ ((8 : Nat) : Int) * l ≤ 281474976710656 ∧ 0 < 1 ∧
      K (.slice (some ⟨w.heap.size, 0, none⟩) l.toNat l.toNat) (w.alloc (.cells (mkCells #[.int .i64 0] (l.toNat * 1)) 3))) := fun l K => by kernel_rfl
  rw [e]
  refine ⟨by omega, by omega, by omega, by omega, by omega, ?_⟩
  rw [Nat.mul_one, mkCells_one, Int.toNat_natCast]
  exact h

/-- A store of one integer. -/
theorem st3 {w : World} {a : Addr} {n : Int} {v : Value} {K : World → Prop} (hc : w.cell? a = some v) (hf : w.frozen? a = false) : stW Tryd.prog 3 (.pointer (some a)) (.int .i64 n) w K = K (w.setCell a (.int .i64 n)) := by
  have e : stW Tryd.prog 3 (.pointer (some a)) (.int .i64 n) w K = ((w.cell? (a.add 0)).isSome = true ∧ w.frozen? (a.add 0) = false ∧ true = true ∧ K (w.setCell (a.add 0) (.int .i64 n))) := by kernel_rfl
  rw [e]
  have ha : a.add 0 = a := rfl
  simp [ha, hc, hf]

end Go.Proofs.YtbekeccfjmoonaaDoor

/- More rules on memory: whole blocks and parts of blocks that are stored and read. -/
namespace Go.Proofs.YtbekeccfjmoonaaDoor
open Go.Lf Go.RowKit

theorem agg_cells (cs : Array Value) : Value.agg (Value.agg cs).cells = .agg cs := rfl

theorem setCell_size (w : World) (p : Addr) (v : Value) : (w.setCell p v).heap.size = w.heap.size := by simp [World.setCell]

/-- Cells stored one after another into a block. -/
theorem stCells_at {b o : Nat} {ty : TypeId} : ∀ (vs : List Value) (i : Nat) (w : World) (cs : Array Value) (K : World → Prop), w.heap[b]? = some (.cells cs ty (0, 0)) → o + i + vs.length ≤ cs.size → (∀ u ∈ vs, u.oneCell' = true) →
    (∀ w', Chg (fun k => k = b) w w' → w'.heap.size = w.heap.size → w'.heap[b]? = some (.cells (cs.toList.take (o + i) ++ vs ++ cs.toList.drop (o + i + vs.length)).toArray ty (0, 0)) → K w') → stCells ⟨b, o, none⟩ vs i w K
  | [], i, w, cs, K, hb, _, _, hk => hk w (Chg.refl _ _) rfl (by simpa using hb)
  | v :: vs, i, w, cs, K, hb, hn, h1, hk => by
    simp only [List.length_cons] at hn
    have hlt : o + i < cs.size := by omega
    have ha : (⟨b, o, none⟩ : Addr).add i = ⟨b, o + i, none⟩ := r_addr b o i
    simp only [stCells, ha]
    refine ⟨by rw [cell_row hb]; simp [hlt], frozen_row hb, h1 v (by simp), ?_⟩
    have hb' := setCell_block (o := o + i) (v := v) hb rfl
    refine stCells_at vs (i + 1) _ _ K hb' (by simp; omega) (fun u hu => h1 u (by simp [hu])) fun w' hch hsz hbw => hk w' ((Chg.setCell (S := fun k => k = b) w v rfl).trans hch) (hsz.trans (setCell_size _ _ _)) ?_
    rw [hbw]
    congr 3
    have e1 : (cs.setIfInBounds (o + i) v).toList = cs.toList.set (o + i) v := by simp
    rw [e1, show o + (i + 1) = o + i + 1 by omega]
    have hl : o + i < cs.toList.length := by simpa using hlt
    rw [List.take_succ_eq_append_getElem (by simpa using hl), List.getElem_set_self, List.take_set_of_le (Nat.le_refl _), List.drop_set_of_lt (by omega)]
    simp [Nat.add_assoc, Nat.add_comm 1]

theorem stW_eq {t : TypeId} {n : Nat} {v : Value} {a : Addr} {w : World} {K : World → Prop} (ht : (Tryd.prog.info? t).map (·.size) = some n) (hv : v.cells.size = n) : stW Tryd.prog t (.pointer (some a)) v w K = stCells a v.cells.toList 0 w K := by
  cases hi : Tryd.prog.info? t with
  | none => simp [hi] at ht
  | some i =>
    simp [hi] at ht
    simp [stW, hi, hv, ht]

/-- A store of a whole block. -/
theorem r_stAll {t ty : TypeId} {n b : Nat} {v : Value} {cs : Array Value} {w : World} {K : World → Prop} (ht : (Tryd.prog.info? t).map (·.size) = some n) (hv : v.cells.size = n) (h1 : ∀ u ∈ v.cells.toList, u.oneCell' = true)
    (hb : w.heap[b]? = some (.cells cs ty (0, 0))) (hn : cs.size = n)
    (hk : ∀ w', Chg (fun k => k = b) w w' → w'.heap.size = w.heap.size → w'.heap[b]? = some (.cells v.cells ty (0, 0)) → K w') : stW Tryd.prog t (.pointer (some ⟨b, 0, none⟩)) v w K := by
  rw [stW_eq ht hv]
  refine stCells_at _ 0 w cs K hb (by simp; omega) h1 fun w' h2 h3 h4 => hk w' h2 h3 ?_
  have e : v.cells.size ≤ cs.size := by omega
  simpa [List.drop_eq_nil_of_le, hn, hv] using h4

/-- A store of some of a block's cells. -/
theorem r_stAt {t ty : TypeId} {n b o : Nat} {v : Value} {cs : Array Value} {w : World} {K : World → Prop} (ht : (Tryd.prog.info? t).map (·.size) = some n) (hv : v.cells.size = n) (h1 : ∀ u ∈ v.cells.toList, u.oneCell' = true)
    (hb : w.heap[b]? = some (.cells cs ty (0, 0))) (hn : o + n ≤ cs.size)
    (hk : ∀ w', Chg (fun k => k = b) w w' → w'.heap.size = w.heap.size → w'.heap[b]? = some (.cells (cs.toList.take o ++ v.cells.toList ++ cs.toList.drop (o + n)).toArray ty (0, 0)) → K w') : stW Tryd.prog t (.pointer (some ⟨b, o, none⟩)) v w K := by
  rw [stW_eq ht hv]
  refine stCells_at _ 0 w cs K hb (by simp; omega) h1 fun w' h2 h3 h4 => hk w' h2 h3 ?_
  simpa [hv] using h4

theorem r_ldAt {w : World} {K : Value → Prop} {b o n : Nat} {cs : Array Value} {t : TypeId} {fr : Nat × Nat} {l : List Value} (h : w.heap[b]? = some (.cells cs t fr)) (hn : o + n ≤ cs.size) (hl : (cs.toList.drop o).take n = l) : ldN n w (.pointer (some ⟨b, o, none⟩)) K = K (.agg l.toArray) := by
  have := cellsAt_row h n o 0 (by omega)
  simp only [ldN, this, Nat.add_zero, hl]

/-- A row of integers as cells. -/
def intCells (r : List Int) : List Value := r.map (.int .i64)
theorem intCells_length (r : List Int) : (intCells r).length = r.length := by simp [intCells]
theorem intCells_one {r : List Int} : ∀ u ∈ intCells r, u.oneCell' = true := by
  intro u hu
  simp only [intCells, List.mem_map] at hu
  obtain ⟨_, _, rfl⟩ := hu
  rfl
/-- A row as a value. -/
abbrev rowV (r : List Int) : Value := .agg (intCells r).toArray
theorem rowV_size (r : List Int) : (rowV r).cells.size = r.length := by simp [Value.cells, intCells]
theorem rowV_one (r : List Int) : ∀ u ∈ (rowV r).cells.toList, u.oneCell' = true := by
  intro u hu
  exact intCells_one u (by simpa [Value.cells] using hu)
theorem row_cell {w : World} {b j : Nat} {t : TypeId} {r : List Int} (h : w.heap[b]? = some (.cells (intCells r).toArray t (0, 0))) (hj : j < r.length) : w.cell? ⟨b, j, none⟩ = some (.int .i64 (r.getD j 0)) := by
  rw [cell_row h]
  simp [intCells, hj]
theorem row_set {w w' : World} {b j : Nat} {t : TypeId} {r : List Int} {x : Int} (h : w.heap[b]? = some (.cells (intCells r).toArray t (0, 0))) (e : w' = w.setCell ⟨b, j, none⟩ (.int .i64 x)) : w'.heap[b]? = some (.cells (intCells (r.set j x)).toArray t (0, 0)) := by
  rw [setCell_block h e]
  simp [intCells, List.map_set]

end Go.Proofs.YtbekeccfjmoonaaDoor
