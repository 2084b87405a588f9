/- More rules on memory: whole blocks and parts of blocks that are stored and read. -/
import Derived.Test.YtbekeccfjmoonaaDoorOwn
set_option linter.all false
namespace Go.Proofs.YtbekeccfjmoonaaDoor
open Go.Lf Go.RowKit

theorem agg_cells (cs : Array Value) : Value.agg (Value.agg cs).cells = .agg cs := rfl

theorem setCell_size (w : World) (p : Addr) (v : Value) : (w.setCell p v).heap.size = w.heap.size := by simp [World.setCell]

/-- Cells stored one after another into a block. -/
theorem stCells_at {b o : Nat} {ty : TypeId} : ∀ (vs : List Value) (i : Nat) (w : World) (cs : Array Value) (K : World → Prop), w.heap[b]? = some (.cells cs ty (0, 0)) → o + i + vs.length ≤ cs.size → (∀ u ∈ vs, u.oneCell' = true) →
    (∀ w', Chg (fun k => k = b) w w' → w'.heap.size = w.heap.size → w'.heap[b]? = some (.cells (cs.toList.take (o + i) ++ vs ++ cs.toList.drop (o + i + vs.length)).toArray ty (0, 0)) → K w') → stCells ⟨b, o, none⟩ vs i w K
  | [], i, w, cs, K, hb, _, _, hk => hk w (Chg.refl _ _) rfl (by simpa using hb)
  | v :: vs, i, w, cs, K, hb, hn, h1, hk => by
    simp only [List.length_cons] at hn
    have hlt : o + i < cs.size := by omega
    have ha : (⟨b, o, none⟩ : Addr).add i = ⟨b, o + i, none⟩ := r_addr b o i
    simp only [stCells, ha]
    refine ⟨by rw [cell_row hb]; simp [hlt], frozen_row hb, h1 v (by simp), ?_⟩
    have hb' := setCell_block (o := o + i) (v := v) hb rfl
    refine stCells_at vs (i + 1) _ _ K hb' (by simp; omega) (fun u hu => h1 u (by simp [hu])) fun w' hch hsz hbw => hk w' ((Chg.setCell (S := fun k => k = b) w v rfl).trans hch) (hsz.trans (setCell_size _ _ _)) ?_
    rw [hbw]
    congr 3
    have e1 : (cs.setIfInBounds (o + i) v).toList = cs.toList.set (o + i) v := by simp
    rw [e1, show o + (i + 1) = o + i + 1 by omega]
    have hl : o + i < cs.toList.length := by simpa using hlt
    rw [List.take_succ_eq_append_getElem (by simpa using hl), List.getElem_set_self, List.take_set_of_le (Nat.le_refl _), List.drop_set_of_lt (by omega)]
    simp [Nat.add_assoc, Nat.add_comm 1]

theorem stW_eq {t : TypeId} {n : Nat} {v : Value} {a : Addr} {w : World} {K : World → Prop} (ht : (Tryd.prog.info? t).map (·.size) = some n) (hv : v.cells.size = n) : stW Tryd.prog t (.pointer (some a)) v w K = stCells a v.cells.toList 0 w K := by
  cases hi : Tryd.prog.info? t with
  | none => simp [hi] at ht
  | some i =>
    simp [hi] at ht
    simp [stW, hi, hv, ht]

/-- A store of a whole block. -/
theorem r_stAll {t ty : TypeId} {n b : Nat} {v : Value} {cs : Array Value} {w : World} {K : World → Prop} (ht : (Tryd.prog.info? t).map (·.size) = some n) (hv : v.cells.size = n) (h1 : ∀ u ∈ v.cells.toList, u.oneCell' = true)
    (hb : w.heap[b]? = some (.cells cs ty (0, 0))) (hn : cs.size = n)
    (hk : ∀ w', Chg (fun k => k = b) w w' → w'.heap.size = w.heap.size → w'.heap[b]? = some (.cells v.cells ty (0, 0)) → K w') : stW Tryd.prog t (.pointer (some ⟨b, 0, none⟩)) v w K := by
  rw [stW_eq ht hv]
  refine stCells_at _ 0 w cs K hb (by simp; omega) h1 fun w' h2 h3 h4 => hk w' h2 h3 ?_
  have e : v.cells.size ≤ cs.size := by omega
  simpa [List.drop_eq_nil_of_le, hn, hv] using h4

/-- A store of some of a block's cells. -/
theorem r_stAt {t ty : TypeId} {n b o : Nat} {v : Value} {cs : Array Value} {w : World} {K : World → Prop} (ht : (Tryd.prog.info? t).map (·.size) = some n) (hv : v.cells.size = n) (h1 : ∀ u ∈ v.cells.toList, u.oneCell' = true)
    (hb : w.heap[b]? = some (.cells cs ty (0, 0))) (hn : o + n ≤ cs.size)
    (hk : ∀ w', Chg (fun k => k = b) w w' → w'.heap.size = w.heap.size → w'.heap[b]? = some (.cells (cs.toList.take o ++ v.cells.toList ++ cs.toList.drop (o + n)).toArray ty (0, 0)) → K w') : stW Tryd.prog t (.pointer (some ⟨b, o, none⟩)) v w K := by
  rw [stW_eq ht hv]
  refine stCells_at _ 0 w cs K hb (by simp; omega) h1 fun w' h2 h3 h4 => hk w' h2 h3 ?_
  simpa [hv] using h4

theorem r_ldAt {w : World} {K : Value → Prop} {b o n : Nat} {cs : Array Value} {t : TypeId} {fr : Nat × Nat} {l : List Value} (h : w.heap[b]? = some (.cells cs t fr)) (hn : o + n ≤ cs.size) (hl : (cs.toList.drop o).take n = l) : ldN n w (.pointer (some ⟨b, o, none⟩)) K = K (.agg l.toArray) := by
  have := cellsAt_row h n o 0 (by omega)
  simp only [ldN, this, Nat.add_zero, hl]

/-- A row of integers as cells. -/
def intCells (r : List Int) : List Value := r.map (.int .i64)
theorem intCells_length (r : List Int) : (intCells r).length = r.length := by simp [intCells]
theorem intCells_one {r : List Int} : ∀ u ∈ intCells r, u.oneCell' = true := by
  intro u hu
  simp only [intCells, List.mem_map] at hu
  obtain ⟨_, _, rfl⟩ := hu
  rfl
/-- A row as a value. -/
abbrev rowV (r : List Int) : Value := .agg (intCells r).toArray
theorem rowV_size (r : List Int) : (rowV r).cells.size = r.length := by simp [Value.cells, intCells]
theorem rowV_one (r : List Int) : ∀ u ∈ (rowV r).cells.toList, u.oneCell' = true := by
  intro u hu
  exact intCells_one u (by simpa [Value.cells] using hu)
theorem row_cell {w : World} {b j : Nat} {t : TypeId} {r : List Int} (h : w.heap[b]? = some (.cells (intCells r).toArray t (0, 0))) (hj : j < r.length) : w.cell? ⟨b, j, none⟩ = some (.int .i64 (r.getD j 0)) := by
  rw [cell_row h]
  simp [intCells, hj]
theorem row_set {w w' : World} {b j : Nat} {t : TypeId} {r : List Int} {x : Int} (h : w.heap[b]? = some (.cells (intCells r).toArray t (0, 0))) (e : w' = w.setCell ⟨b, j, none⟩ (.int .i64 x)) : w'.heap[b]? = some (.cells (intCells (r.set j x)).toArray t (0, 0)) := by
  rw [setCell_block h e]
  simp [intCells, List.map_set]

end Go.Proofs.YtbekeccfjmoonaaDoor
