/- Texts of my own, merged by program: Mem Recs Sa. -/
import Derived.Test.YtgalbokmgffhkaaN03
set_option linter.all false
/- More rules on memory: whole blocks and parts of blocks that are stored and read. -/
namespace Go.Proofs.Ytgalbokmgffhkaa
open Go.Lf Go.RowKit Go.Hp

theorem agg_cells (cs : Array Value) : Value.agg (Value.agg cs).cells = .agg cs := rfl

theorem setCell_size (w : World) (p : Addr) (v : Value) : (w.setCell p v).heap.size = w.heap.size := by simp [World.setCell]

/-- Cells stored one after another into a block. -/
theorem stCells_at {b o : Nat} {ty : TypeId} : ∀ (vs : List Value) (i : Nat) (w : World) (cs : Array Value) (K : World → Prop), w.heap[b]? = some (.cells cs ty (0, 0)) → o + i + vs.length ≤ cs.size → (∀ u ∈ vs, u.oneCell' = true) →
    (∀ w', Chg (fun k => k = b) w w' → w'.heap.size = w.heap.size → w'.heap[b]? = some (.cells (cs.toList.take (o + i) ++ vs ++ cs.toList.drop (o + i + vs.length)).toArray ty (0, 0)) → K w') → stCells ⟨b, o, none⟩ vs i w K
  | [], i, w, cs, K, hb, _, _, hk => hk w (Chg.refl _ _) rfl (by simpa using hb)
  | v :: vs, i, w, cs, K, hb, hn, h1, hk => by
    simp only [List.length_cons] at hn
    have hlt : o + i < cs.size := by omega
    have ha : (⟨b, o, none⟩ : Addr).add i = ⟨b, o + i, none⟩ := r_addr b o i
    simp only [stCells, ha]
    refine ⟨by rw [cell_row hb]; simp [hlt], frozen_row hb, h1 v (by simp), ?_⟩
    have hb' := setCell_block (o := o + i) (v := v) hb rfl
    refine stCells_at vs (i + 1) _ _ K hb' (by simp; omega) (fun u hu => h1 u (by simp [hu])) fun w' hch hsz hbw => hk w' ((Chg.setCell (S := fun k => k = b) w v rfl).trans hch) (hsz.trans (setCell_size _ _ _)) ?_
    rw [hbw]
    congr 3
    have e1 : (cs.setIfInBounds (o + i) v).toList = cs.toList.set (o + i) v := by simp
    rw [e1, show o + (i + 1) = o + i + 1 by omega]
    have hl : o + i < cs.toList.length := by simpa using hlt
    rw [List.take_succ_eq_append_getElem (by simpa using hl), List.getElem_set_self, List.take_set_of_le (Nat.le_refl _), List.drop_set_of_lt (by omega)]
    simp [Nat.add_assoc, Nat.add_comm 1]

theorem stW_eq {t : TypeId} {n : Nat} {v : Value} {a : Addr} {w : World} {K : World → Prop} (ht : (Try.prog.info? t).map (·.size) = some n) (hv : v.cells.size = n) : stW Try.prog t (.pointer (some a)) v w K = stCells a v.cells.toList 0 w K := by
  cases hi : Try.prog.info? t with
  | none => simp [hi] at ht
  | some i =>
    simp [hi] at ht
    simp [stW, hi, hv, ht]

/-- A store of a whole block. -/
theorem r_stAll {t ty : TypeId} {n b : Nat} {v : Value} {cs : Array Value} {w : World} {K : World → Prop} (ht : (Try.prog.info? t).map (·.size) = some n) (hv : v.cells.size = n) (h1 : ∀ u ∈ v.cells.toList, u.oneCell' = true)
    (hb : w.heap[b]? = some (.cells cs ty (0, 0))) (hn : cs.size = n)
    (hk : ∀ w', Chg (fun k => k = b) w w' → w'.heap.size = w.heap.size → w'.heap[b]? = some (.cells v.cells ty (0, 0)) → K w') : stW Try.prog t (.pointer (some ⟨b, 0, none⟩)) v w K := by
  rw [stW_eq ht hv]
  refine stCells_at _ 0 w cs K hb (by simp; omega) h1 fun w' h2 h3 h4 => hk w' h2 h3 ?_
  have e : v.cells.size ≤ cs.size := by omega
  simpa [List.drop_eq_nil_of_le, hn, hv] using h4

/-- A store of some of a block's cells. -/
theorem r_stAt {t ty : TypeId} {n b o : Nat} {v : Value} {cs : Array Value} {w : World} {K : World → Prop} (ht : (Try.prog.info? t).map (·.size) = some n) (hv : v.cells.size = n) (h1 : ∀ u ∈ v.cells.toList, u.oneCell' = true)
    (hb : w.heap[b]? = some (.cells cs ty (0, 0))) (hn : o + n ≤ cs.size)
    (hk : ∀ w', Chg (fun k => k = b) w w' → w'.heap.size = w.heap.size → w'.heap[b]? = some (.cells (cs.toList.take o ++ v.cells.toList ++ cs.toList.drop (o + n)).toArray ty (0, 0)) → K w') : stW Try.prog t (.pointer (some ⟨b, o, none⟩)) v w K := by
  rw [stW_eq ht hv]
  refine stCells_at _ 0 w cs K hb (by simp; omega) h1 fun w' h2 h3 h4 => hk w' h2 h3 ?_
  simpa [hv] using h4

theorem r_ldAt {w : World} {K : Value → Prop} {b o n : Nat} {cs : Array Value} {t : TypeId} {fr : Nat × Nat} {l : List Value} (h : w.heap[b]? = some (.cells cs t fr)) (hn : o + n ≤ cs.size) (hl : (cs.toList.drop o).take n = l) : ldN n w (.pointer (some ⟨b, o, none⟩)) K = K (.agg l.toArray) := by
  have := cellsAt_row h n o 0 (by omega)
  simp only [ldN, this, Nat.add_zero, hl]

/-- A row of integers as cells. -/
def intCells (r : List Int) : List Value := r.map (.int .i64)
theorem intCells_length (r : List Int) : (intCells r).length = r.length := by simp [intCells]
theorem intCells_one {r : List Int} : ∀ u ∈ intCells r, u.oneCell' = true := by
  intro u hu
  simp only [intCells, List.mem_map] at hu
  obtain ⟨_, _, rfl⟩ := hu
  rfl
/-- A row as a value. -/
abbrev rowV (r : List Int) : Value := .agg (intCells r).toArray
theorem rowV_size (r : List Int) : (rowV r).cells.size = r.length := by simp [Value.cells, intCells]
theorem rowV_one (r : List Int) : ∀ u ∈ (rowV r).cells.toList, u.oneCell' = true := by
  intro u hu
  exact intCells_one u (by simpa [Value.cells] using hu)
theorem row_cell {w : World} {b j : Nat} {t : TypeId} {r : List Int} (h : w.heap[b]? = some (.cells (intCells r).toArray t (0, 0))) (hj : j < r.length) : w.cell? ⟨b, j, none⟩ = some (.int .i64 (r.getD j 0)) := by
  rw [cell_row h]
  simp [intCells, hj]
theorem row_set {w w' : World} {b j : Nat} {t : TypeId} {r : List Int} {x : Int} (h : w.heap[b]? = some (.cells (intCells r).toArray t (0, 0))) (e : w' = w.setCell ⟨b, j, none⟩ (.int .i64 x)) : w'.heap[b]? = some (.cells (intCells (r.set j x)).toArray t (0, 0)) := by
  rw [setCell_block h e]
  simp [intCells, List.map_set]

end Go.Proofs.Ytgalbokmgffhkaa

/- Records in memory: slices that are read as lists of records, slices of one's own that grow and are written. -/
namespace Go.Proofs.Ytgalbokmgffhkaa
open Go.Lf Go.RowKit

section
variable {α : Type} {m : Nat} {enc : α → List Value}

/-- The slice v reads as the records l, each of m cells. -/
def Rd (m : Nat) (enc : α → List Value) (w : World) (v : Value) (l : List α) : Prop :=
  ∃ a cap, v = .slice a l.length cap ∧ l.length ≤ cap ∧ (0 < l.length → ∃ b off, a = some ⟨b, off, none⟩ ∧ ∀ i x, l[i]? = some x → ∀ j u, (enc x)[j]? = some u → w.cell? ⟨b, off + i * m + j, none⟩ = some u)

theorem Rd.cells {w w' : World} {v : Value} {l : List α} (h : Rd m enc w v l) (hc : ∀ a x, w.cell? a = some x → w'.cell? a = some x) : Rd m enc w' v l := by
  obtain ⟨a, cap, rfl, hl, hh⟩ := h
  refine ⟨a, cap, rfl, hl, fun h0 => ?_⟩
  obtain ⟨b, off, rfl, hcell⟩ := hh h0
  exact ⟨b, off, rfl, fun i x hi j u hu => hc _ _ (hcell i x hi j u hu)⟩
theorem Rd.kp {w w' : World} {v : Value} {l : List α} (h : Rd m enc w v l) (hk : Kp w w') : Rd m enc w' v l := h.cells fun _ _ hx => cell_later hk hx
theorem Rd.len {w : World} {v : Value} {l : List α} (h : Rd m enc w v l) : ∃ a cap, v = .slice a l.length cap ∧ l.length ≤ cap :=
  let ⟨a, cap, e, hl, _⟩ := h; ⟨a, cap, e, hl⟩
theorem Rd.at {w : World} {v : Value} {l : List α} (h : Rd m enc w v l) {i : Nat} {x : α} (hi : l[i]? = some x) :
    ∃ b off cap, v = .slice (some ⟨b, off, none⟩) l.length cap ∧ i < l.length ∧ ∀ j u, (enc x)[j]? = some u → w.cell? ⟨b, off + i * m + j, none⟩ = some u := by
  obtain ⟨a, cap, rfl, _, hh⟩ := h
  have hlt : i < l.length := (List.getElem?_eq_some_iff.1 hi).1
  obtain ⟨b, off, rfl, hcell⟩ := hh (by omega)
  exact ⟨b, off, cap, rfl, hlt, fun j u hu => hcell i x hi j u hu⟩
theorem Rd.nil {w : World} {a : Option Addr} {cap : Nat} : Rd m enc w (.slice a 0 cap) [] := ⟨a, cap, rfl, Nat.zero_le _, fun h => absurd h (by simp)⟩
/-- The block that a slice that is read lies in. -/
theorem Rd.block {w : World} {v : Value} {l : List α} (h : Rd m enc w v l) (h0 : ∀ x, 0 < (enc x).length) {b off : Nat} {n cap : Nat} (e : v = .slice (some ⟨b, off, none⟩) n cap) (hl : 0 < l.length) : b < w.heap.size := by
  obtain ⟨a, cap, rfl, _, hh⟩ := h
  obtain ⟨b', off', rfl, hcell⟩ := hh hl
  injection e with e1 _ _
  injection e1 with e1
  injection e1 with e1 _ _
  subst e1
  obtain ⟨x, hx⟩ : ∃ x, l[0]? = some x := ⟨_, List.getElem?_eq_getElem hl⟩
  obtain ⟨u, hu⟩ : ∃ u, (enc x)[0]? = some u := ⟨_, List.getElem?_eq_getElem (h0 x)⟩
  exact World.block_lt_of_cell? w _ (hcell 0 x hx 0 u hu)

/-- The part of a slice in front. -/
theorem Rd.take {w : World} {a : Option Addr} {n cap : Nat} {l : List α} (h : Rd m enc w (.slice a n cap) l) {i : Nat} (hi : i ≤ l.length) : Rd m enc w (.slice a i cap) (l.take i) := by
  obtain ⟨a', cap', e, hlc, hh⟩ := h
  cases e
  have hl : (l.take i).length = i := by rw [List.length_take]; omega
  refine ⟨a, cap, by rw [hl], by omega, fun h0 => ?_⟩
  obtain ⟨b, off, rfl, hcell⟩ := hh (by omega)
  refine ⟨b, off, rfl, fun k x hk j u hu => hcell k x ?_ j u hu⟩
  rw [List.getElem?_take] at hk
  split at hk
  · exact hk
  · cases hk

theorem cellsAt_eq {w : World} {b o : Nat} {l : List Value} (h : ∀ j u, l[j]? = some u → w.cell? ⟨b, o + j, none⟩ = some u) : ∀ (n i : Nat), i + n ≤ l.length → cellsAt w ⟨b, o, none⟩ n i = some ((l.drop i).take n)
  | 0, i, _ => by simp [cellsAt]
  | n + 1, i, hn => by
    have hlt : i < l.length := by omega
    have ih := cellsAt_eq h n (i + 1) (by omega)
    have hc := h i l[i] (List.getElem?_eq_getElem hlt)
    simp only [cellsAt, r_addr, hc, ih]
    rw [List.drop_eq_getElem_cons hlt, List.take_succ_cons]
/-- A struct that is read whole. -/
theorem r_ldCells {w : World} {b o n : Nat} {l : List Value} {K : Value → Prop} (hn : l.length = n) (h : ∀ j u, l[j]? = some u → w.cell? ⟨b, o + j, none⟩ = some u) : ldN n w (.pointer (some ⟨b, o, none⟩)) K = K (.agg l.toArray) := by
  have := cellsAt_eq h n 0 (by omega)
  simp only [ldN, this, List.drop_zero]
  rw [List.take_of_length_le (by omega)]

/-! ### one's own -/

def recCells (enc : α → List Value) (P : List α) : List Value := P.flatMap enc
theorem recCells_append (P Q : List α) : recCells enc (P ++ Q) = recCells enc P ++ recCells enc Q := by simp [recCells]
theorem recCells_length (he : ∀ x, (enc x).length = m) : ∀ P : List α, (recCells enc P).length = P.length * m
  | [] => by simp [recCells]
  | p :: P => by
    have := recCells_length he P
    simp only [recCells, List.flatMap_cons, List.length_append, List.length_cons] at *
    rw [this, he, Nat.add_mul]
    omega
theorem recCells_at (he : ∀ x, (enc x).length = m) : ∀ (P : List α) (q j : Nat) (p : α), P[q]? = some p → j < m → (recCells enc P)[q * m + j]? = (enc p)[j]?
  | p :: P, 0, j, _, h, hj => by
    cases h
    simp only [recCells, List.flatMap_cons, Nat.zero_mul, Nat.zero_add]
    rw [List.getElem?_append_left (by rw [he]; exact hj)]
  | p' :: P, q + 1, j, p, h, hj => by
    have := recCells_at he P q j p (by simpa using h) hj
    simp only [recCells, List.flatMap_cons] at this ⊢
    rw [List.getElem?_append_right (by rw [he, Nat.add_mul]; omega), he, show (q + 1) * m + j - m = q * m + j by rw [Nat.add_mul]; omega]
    exact this
theorem recCells_set (he : ∀ x, (enc x).length = m) {u : Value} {p' : α} : ∀ (P : List α) (q j : Nat) (p : α), P[q]? = some p → j < m → enc p' = (enc p).set j u → recCells enc (P.set q p') = (recCells enc P).set (q * m + j) u
  | p :: P, 0, j, _, h, hj, e => by
    cases h
    simp only [recCells, List.flatMap_cons, List.set_cons_zero, Nat.zero_mul, Nat.zero_add]
    rw [List.set_append_left _ _ (by rw [he]; exact hj), e]
  | p1 :: P, q + 1, j, p, h, hj, e => by
    have := recCells_set he P q j p (by simpa using h) hj e
    simp only [recCells, List.flatMap_cons, List.set_cons_succ] at this ⊢
    rw [List.set_append_right _ _ (by rw [he, Nat.add_mul]; omega), he, show (q + 1) * m + j - m = q * m + j by rw [Nat.add_mul]; omega, this]

/-- The slice v holds the records P, in a block of its own not below base. -/
def RecAt (e : TypeId) (m : Nat) (enc : α → List Value) (base : Nat) (w : World) (v : Value) (P : List α) : Prop := w.ownsRow base e m v P.length (recCells enc P)

variable {e : TypeId} {base : Nat} {w w' : World} {v : Value} {P : List α}

theorem RecAt.kp (h : RecAt e m enc base w v P) (hk : Kp w w') : RecAt e m enc base w' v P := owns_kp h hk
theorem RecAt.nil : RecAt e m enc base w (.slice none 0 0) [] := World.ownsRow_nil _ _ _ _
theorem RecAt.chg {S : Nat → Prop} (h : RecAt e m enc base w v P) (hc : Chg S w w') (hs : ∀ k, v.ownBlock = some k → ¬ S k) : RecAt e m enc base w' v P := owns_chg h hc hs
theorem RecAt.lt (h : RecAt e m enc base w v P) {k : Nat} (hk : v.ownBlock = some k) : base ≤ k ∧ k < w.heap.size := World.ownsRow.lt h k hk
theorem RecAt.down {base' : Nat} (h : RecAt e m enc base w v P) (hb : base' ≤ base) : RecAt e m enc base' w v P :=
  ⟨h.1, h.2.imp id fun ⟨g, cap, cur, r1, r2, r3⟩ => ⟨g, cap, cur, r1, by omega, r3⟩⟩
theorem RecAt.len (h : RecAt e m enc base w v P) : ∃ a cap, v = .slice a P.length cap ∧ P.length ≤ cap := by
  rcases h.2 with ⟨rfl, hn⟩ | ⟨g, cap, cur, e, _, _, hle, _⟩
  · exact ⟨none, 0, by rw [hn], by omega⟩
  · exact ⟨_, _, e, hle⟩
theorem RecAt.blk (h : RecAt e m enc base w v P) (h0 : 0 < P.length) :
    ∃ g cap cur, v = .slice (some ⟨g, 0, none⟩) P.length cap ∧ base ≤ g ∧ w.heap[g]? = some (.cells cur e (0, 0)) ∧ P.length ≤ cap ∧ cap ≤ maxLen ∧ cur.size = cap * m ∧ cur.toList.take (P.length * m) = recCells enc P := by
  rcases h.2 with ⟨_, hn⟩ | ⟨g, cap, cur, r⟩
  · omega
  · exact ⟨g, cap, cur, r⟩

theorem RecAt.rd (he : ∀ x, (enc x).length = m) (h : RecAt e m enc base w v P) : Rd m enc w v P := by
  obtain ⟨a, cap, rfl, hlc⟩ := h.len
  refine ⟨a, cap, rfl, hlc, fun h0 => ?_⟩
  obtain ⟨g, cap', cur, e1, _, hg, hle, _, hs, ht⟩ := h.blk h0
  cases e1
  refine ⟨g, 0, rfl, fun i x hi j u hu => ?_⟩
  have hi' : i < P.length := (List.getElem?_eq_some_iff.1 hi).1
  have hj : j < m := by rw [← he x]; exact (List.getElem?_eq_some_iff.1 hu).1
  have h1 := recCells_at he P i j x hi hj
  have hlt : i * m + j < P.length * m := by
    have : (i + 1) * m ≤ P.length * m := Nat.mul_le_mul_right m hi'
    rw [Nat.add_mul] at this
    omega
  rw [← ht, List.getElem?_take, if_pos hlt, hu] at h1
  rw [Nat.zero_add, cell_row hg]
  simpa using h1

/-- A store into one cell of a record. -/
theorem RecAt.set (he : ∀ x, (enc x).length = m) (h : RecAt e m enc base w v P) {q j : Nat} {p p' : α} {u : Value} (hq : P[q]? = some p) (hj : j < m) (hp : enc p' = (enc p).set j u) :
    ∃ g cap, v = .slice (some ⟨g, 0, none⟩) P.length cap ∧ base ≤ g ∧ (∃ x, w.cell? ⟨g, q * m + j, none⟩ = some x) ∧ w.frozen? ⟨g, q * m + j, none⟩ = false ∧ RecAt e m enc base (w.setCell ⟨g, q * m + j, none⟩ u) v (P.set q p') := by
  have hq' : q < P.length := (List.getElem?_eq_some_iff.1 hq).1
  obtain ⟨g, cap, cur, e1, hb, hg, hle, hm, hs, ht⟩ := h.blk (by omega)
  have hlt : q * m + j < P.length * m := by
    have : (q + 1) * m ≤ P.length * m := Nat.mul_le_mul_right m hq'
    rw [Nat.add_mul] at this
    omega
  have hlt2 : q * m + j < cur.size := by
    have : P.length * m ≤ cap * m := Nat.mul_le_mul_right m hle
    omega
  refine ⟨g, cap, e1, hb, ⟨cur[q * m + j], by rw [cell_row hg]; simp [hlt2]⟩, frozen_row hg, ?_⟩
  refine ⟨?_, .inr ⟨g, cap, cur.setIfInBounds (q * m + j) u, by rw [List.length_set]; exact e1, hb, setCell_block (o := q * m + j) (v := u) hg rfl, by rw [List.length_set]; exact hle, hm, by simpa using hs, ?_⟩⟩
  · rw [recCells_length he]
  · rw [List.length_set, recCells_set he P q j p hq hj hp, ← ht]
    simp [List.take_set]

/-- Reading stays while other blocks turn. -/
theorem Rd.chg {S : Nat → Prop} {w w' : World} {v : Value} {l : List α} (h : Rd m enc w v l) (hc : Chg S w w') (hs : ∀ b off n cap, v = .slice (some ⟨b, off, none⟩) n cap → ¬ S b) : Rd m enc w' v l := by
  obtain ⟨a, cap, rfl, hl, hh⟩ := h
  refine ⟨a, cap, rfl, hl, fun h0 => ?_⟩
  obtain ⟨b, off, rfl, hcell⟩ := hh h0
  exact ⟨b, off, rfl, fun i x hi j u hu => hc.cell (hcell i x hi j u hu) (hs _ _ _ _ rfl)⟩

end
set_option maxRecDepth 100000 in
/-- append(v, x): and where the new slice lies. -/
theorem r_pushAt {t e ty : TypeId} {size bytes base n : Nat} {v x : Value} {xs : List Value} {w : World} {K : Value → World → Prop} (T : SlT t e size bytes)
    (hbs : ∀ K : Value → World → Prop, bsW Try.prog t 1 [(0, x)] w K = K (.slice (some ⟨w.heap.size, 0, none⟩) 1 1) (w.alloc (.cells x.cells e)))
    (hx : x.cells.size = size) (h1 : ∀ u ∈ x.cells.toList, u.oneCell' = true) (hown : w.ownsRow base e size v n xs) (hn : n + 1 ≤ 1099511627776) (hby : bytes ≤ 128) (hb : base ≤ w.heap.size)
    (hk : ∀ v' w', w'.ownsRow base e size v' (n + 1) (xs ++ x.cells.toList) → w.grownBy w' v.ownBlock → (v'.ownBlock = v.ownBlock ∨ ∃ b, v'.ownBlock = some b ∧ w.heap.size ≤ b) → K v' w') :
    bsW Try.prog t 1 [(0, x)] w fun s w => semW Try.prog (apS [t, t] ty [v, s]) w K := by
  rw [hbs]
  obtain ⟨i, z, i1, i2, i3, i4, i5⟩ := T.info
  have hb2 : (n + 1) * bytes ≤ 140737488355328 := Nat.le_trans (Nat.mul_le_mul hn hby) (by decide)
  have hsz : (w.alloc (.cells x.cells e)).heap.size = w.heap.size + 1 := by show (w.heap.push _).size = _; simp
  obtain ⟨v', w', hr, ho, hg, _, hat⟩ := run_append_own_at (P := Try.prog) (w := w.alloc (.cells x.cells e)) base t ty e i z size bytes T.und i1 i2 i3 i4 i5 T.pos v n xs (hown.alloc _) ⟨w.heap.size, 0, none⟩ 1 1 x.cells.toList (by simp [hx]) (cells_at_row (heap_alloc_new w _)) h1 (by unfold maxLen; omega) hb2 (by omega)
  refine semW_of_run (by simp [apS, hr]) (hk v' w' ho ?_ (hat.imp id fun h => ⟨_, h, by omega⟩))
  exact ⟨hg.os, hg.tape, hg.output, Nat.le_trans (by show _ ≤ (w.heap.push _).size; simp) hg.size, fun k hlt hne => (hg.block k (by show k < (w.heap.push _).size; simp; omega) hne).trans (Below.heap_alloc w _ k hlt)⟩


set_option maxRecDepth 100000 in
/-- append(v, x) at records. -/
theorem r_pushRec {α : Type} {m bytes base : Nat} {enc : α → List Value} {t e ty : TypeId} {w : World} {v xv : Value} {P : List α} {x : α} {K : Value → World → Prop} (T : SlT t e m bytes) (he : ∀ x, (enc x).length = m) (hxv : xv.cells = (enc x).toArray)
    (hbs : ∀ K : Value → World → Prop, bsW Try.prog t 1 [(0, xv)] w K = K (.slice (some ⟨w.heap.size, 0, none⟩) 1 1) (w.alloc (.cells xv.cells e)))
    (h1 : ∀ u ∈ enc x, u.oneCell' = true) (hby : bytes ≤ 128) (h : RecAt e m enc base w v P) (hn : P.length + 1 ≤ 1000000) (hb : base ≤ w.heap.size)
    (hk : ∀ v' w', RecAt e m enc base w' v' (P ++ [x]) → Chg (fun k => v.ownBlock = some k) w w' → (∀ k, v'.ownBlock = some k → v.ownBlock = some k ∨ w.heap.size ≤ k) → K v' w') :
    bsW Try.prog t 1 [(0, xv)] w fun s w => semW Try.prog (apS [t, t] ty [v, s]) w K :=
  r_pushAt T hbs (by rw [hxv]; simpa using he x) (by rw [hxv]; simpa using h1) h (by omega) hby hb fun v' w' ho hg hat => by
    refine hk v' w' ?_ (Chg.of_grown hg fun k hk => hk) fun k hk => ?_
    · unfold RecAt
      rw [recCells_append, List.length_append]
      rw [hxv] at ho
      simpa [recCells] using ho
    · rcases hat with h | ⟨b, h, hlt⟩
      · exact .inl (h ▸ hk)
      · rw [h] at hk
        cases hk
        exact .inr hlt

end Go.Proofs.Ytgalbokmgffhkaa

/- Lifted texts, printed by program (gen.py): what each function's code asks. The ties are by the kernel. -/
namespace Go.Proofs.Ytgalbokmgffhkaa
open Go.Lf Go.RowKit

def S56 (t0 : Value) (w : World) (R : Ending → World → Prop) : Prop :=
  binQ Try.prog w .geq 3 true t0 (.int .i64 0) fun t4 =>
  gd t4 true (fun k => k t0 w) w fun t6 w =>
  gd t4 true (fun k => binQ Try.prog w .leq 3 true t6 (.int .i64 7) fun v => k v w) w fun t7 w =>
  pickQ t4 t7 (.bool false) fun t8 =>
  R (.returned t8) w

def A56 : Ann where
  live := fun _ => []
  wr := fun _ _ => false
  sched := fun _ => .done

set_option maxRecDepth 100000 in
theorem ok56 : (codeOk Try.f56.ntmps A56 (Try.f56.body.getD .skip) 0 && Nat.ble 1 Try.f56.ntmps) = true := by kernel_rfl
set_option maxRecDepth 100000 in
theorem lift56 {t0 : Value} {w : World} {R : Ending → World → Prop} (h : S56 t0 w R) : Calls Try.prog 56 #[t0] w R :=
  calls_of_cw (fn := Try.f56) (c := Try.f56.body.getD .skip) A56 mixes Try.func56 (by kernel_rfl) ok56
    ((by kernel_rfl : (S56 t0 w R) = cw Try.prog A56 (Try.f56.body.getD .skip) 0 (bodyQ Try.prog Try.f56 R) (frOf #[t0]) w).mp h)

def S62 (t0 : Value) (w : World) (R : Ending → World → Prop) : Prop :=
  binQ Try.prog w .geq 3 true t0 (.int .i64 0) fun t4 =>
  gd t4 true (fun k => k t0 w) w fun t6 w =>
  gd t4 true (fun k => binQ Try.prog w .leq 3 true t6 (.int .i64 7) fun v => k v w) w fun t7 w =>
  pickQ t4 t7 (.bool false) fun t8 =>
  R (.returned t8) w

def A62 : Ann where
  live := fun _ => []
  wr := fun _ _ => false
  sched := fun _ => .done

set_option maxRecDepth 100000 in
theorem ok62 : (codeOk Try.f62.ntmps A62 (Try.f62.body.getD .skip) 0 && Nat.ble 1 Try.f62.ntmps) = true := by kernel_rfl
set_option maxRecDepth 100000 in
theorem lift62 {t0 : Value} {w : World} {R : Ending → World → Prop} (h : S62 t0 w R) : Calls Try.prog 62 #[t0] w R :=
  calls_of_cw (fn := Try.f62) (c := Try.f62.body.getD .skip) A62 mixes Try.func62 (by kernel_rfl) ok62
    ((by kernel_rfl : (S62 t0 w R) = cw Try.prog A62 (Try.f62.body.getD .skip) 0 (bodyQ Try.prog Try.f62 R) (frOf #[t0]) w).mp h)

def S66 (t0 : Value) (w : World) (R : Ending → World → Prop) : Prop :=
  binQ Try.prog w .geq 3 true t0 (.int .i64 1) fun t4 =>
  gd t4 true (fun k => k t0 w) w fun t6 w =>
  gd t4 true (fun k => binQ Try.prog w .leq 3 true t6 (.int .i64 4) fun v => k v w) w fun t7 w =>
  pickQ t4 t7 (.bool false) fun t8 =>
  R (.returned t8) w

def A66 : Ann where
  live := fun _ => []
  wr := fun _ _ => false
  sched := fun _ => .done

set_option maxRecDepth 100000 in
theorem ok66 : (codeOk Try.f66.ntmps A66 (Try.f66.body.getD .skip) 0 && Nat.ble 1 Try.f66.ntmps) = true := by kernel_rfl
set_option maxRecDepth 100000 in
theorem lift66 {t0 : Value} {w : World} {R : Ending → World → Prop} (h : S66 t0 w R) : Calls Try.prog 66 #[t0] w R :=
  calls_of_cw (fn := Try.f66) (c := Try.f66.body.getD .skip) A66 mixes Try.func66 (by kernel_rfl) ok66
    ((by kernel_rfl : (S66 t0 w R) = cw Try.prog A66 (Try.f66.body.getD .skip) 0 (bodyQ Try.prog Try.f66 R) (frOf #[t0]) w).mp h)

def S68 (t0 : Value) (w : World) (R : Ending → World → Prop) : Prop :=
  binQ Try.prog w .geq 3 true t0 (.int .i64 1) fun t4 =>
  gd t4 true (fun k => k t0 w) w fun t6 w =>
  gd t4 true (fun k => binQ Try.prog w .leq 3 true t6 (.int .i64 4) fun v => k v w) w fun t7 w =>
  pickQ t4 t7 (.bool false) fun t8 =>
  R (.returned t8) w

def A68 : Ann where
  live := fun _ => []
  wr := fun _ _ => false
  sched := fun _ => .done

set_option maxRecDepth 100000 in
theorem ok68 : (codeOk Try.f68.ntmps A68 (Try.f68.body.getD .skip) 0 && Nat.ble 1 Try.f68.ntmps) = true := by kernel_rfl
set_option maxRecDepth 100000 in
theorem lift68 {t0 : Value} {w : World} {R : Ending → World → Prop} (h : S68 t0 w R) : Calls Try.prog 68 #[t0] w R :=
  calls_of_cw (fn := Try.f68) (c := Try.f68.body.getD .skip) A68 mixes Try.func68 (by kernel_rfl) ok68
    ((by kernel_rfl : (S68 t0 w R) = cw Try.prog A68 (Try.f68.body.getD .skip) 0 (bodyQ Try.prog Try.f68 R) (frOf #[t0]) w).mp h)

def S117 (t0 t1 : Value) (w : World) (R : Ending → World → Prop) : Prop :=
  boxW 32 t1 w fun t3 w =>
  ln1 t0 fun t7 =>
  Loop1 (.int .i64 0) w fun _ t8 w next =>
    binQ Try.prog w .lss 3 false t8 t7 fun t9 =>
    condW t9 (
      Drew w fun w =>
      ldN 4 w t3 fun t11 =>
      iaS 4 t0 t8 fun t14 =>
      ldN 4 w t14 fun t15 =>
      binQ Try.prog w .eql 32 false t11 t15 fun t16 =>
      condW t16 (
        R (.returned t8) w
      ) (
        binQ Try.prog w .add 3 true t8 (.int .i64 1) fun t18 =>
        next t18 w
      )
    ) (
      R (.returned (.int .i64 (-1))) w
    )

def A117 : Ann where
  live := fun
    | 0 => [8]
    | _ => []
  wr := fun
    | 0 => fun i => (Nat.ble 4 i && Nat.ble i 5) || (Nat.ble 8 i && Nat.ble i 18)
    | _ => fun _ => false
  sched := fun
    | 4 => (.take 0 (.take 1 (.take 2 (.take 3 (.take 4 (.take 5 .done))))))
    | _ => .done

set_option maxRecDepth 100000 in
theorem ok117 : (codeOk Try.f117.ntmps A117 (Try.f117.body.getD .skip) 0 && Nat.ble 2 Try.f117.ntmps) = true := by kernel_rfl
set_option maxRecDepth 100000 in
theorem lift117 {t0 t1 : Value} {w : World} {R : Ending → World → Prop} (h : S117 t0 t1 w R) : Calls Try.prog 117 #[t0, t1] w R :=
  calls_of_cw (fn := Try.f117) (c := Try.f117.body.getD .skip) A117 mixes Try.func117 (by kernel_rfl) ok117
    ((by kernel_rfl : (S117 t0 t1 w R) = cw Try.prog A117 (Try.f117.body.getD .skip) 0 (bodyQ Try.prog Try.f117 R) (frOf #[t0, t1]) w).mp h)

def S100 (t0 t1 : Value) (w : World) (R : Ending → World → Prop) : Prop :=
  boxW 32 t1 w fun t3 w =>
  ldN 4 w t3 fun t6 =>
  callW Try.prog (.func (.func 117) #[] #[]) [t0, t6] w fun t7 w =>
  binQ Try.prog w .geq 3 true t7 (.int .i64 0) fun t8 =>
  R (.returned t8) w

def A100 : Ann where
  live := fun _ => []
  wr := fun _ _ => false
  sched := fun _ => .done

set_option maxRecDepth 100000 in
theorem ok100 : (codeOk Try.f100.ntmps A100 (Try.f100.body.getD .skip) 0 && Nat.ble 2 Try.f100.ntmps) = true := by kernel_rfl
set_option maxRecDepth 100000 in
theorem lift100 {t0 t1 : Value} {w : World} {R : Ending → World → Prop} (h : S100 t0 t1 w R) : Calls Try.prog 100 #[t0, t1] w R :=
  calls_of_cw (fn := Try.f100) (c := Try.f100.body.getD .skip) A100 mixes Try.func100 (by kernel_rfl) ok100
    ((by kernel_rfl : (S100 t0 t1 w R) = cw Try.prog A100 (Try.f100.body.getD .skip) 0 (bodyQ Try.prog Try.f100 R) (frOf #[t0, t1]) w).mp h)

def S65 (t0 : Value) (w : World) (R : Ending → World → Prop) : Prop :=
  ln1 t0 fun t6 =>
  binQ Try.prog w .lss 3 true t6 (.int .i64 1) fun t7 =>
  gd t7 false (fun k => k t0 w) w fun t9 w =>
  gd t7 false (fun k => ln1 t9 fun v => k v w) w fun t10 w =>
  gd t7 false (fun k => binQ Try.prog w .gtr 3 true t10 (.int .i64 16) fun v => k v w) w fun t11 w =>
  pickQ t7 (.bool true) t11 fun t12 =>
  condW t12 (
    R (.returned (.bool false)) w
  ) (
    ln1 t0 fun t14 =>
    Loop1 (.int .i64 0) w fun _ t15 w next =>
      binQ Try.prog w .lss 3 false t15 t14 fun t16 =>
      condW t16 (
        iaS 4 t0 t15 fun t18 =>
        ldN 4 w t18 fun t19 =>
        boxW 32 (.agg #[(.int .i64 0), (.int .i64 0), (.int .i64 0), (.int .i64 0)]) w fun t4 w =>
        stW Try.prog 32 t4 t19 w fun w =>
        Drew w fun w =>
        fa1 t4 0 fun t20 =>
        ld1 w t20 fun t21 =>
        callW Try.prog (.func (.func 56) #[] #[]) [t21] w <| keepB w fun t22 w =>
        unQ .not t22 fun t23 =>
        gdQ t23 false (fun k => fa1 t4 1 k) fun t25 =>
        gdQ t23 false (fun k => ld1 w t25 k) fun t26 =>
        gd t23 false (fun k => callW Try.prog (.func (.func 56) #[] #[]) [t26] w k) w fun t27 w =>
        gdQ t23 false (fun k => unQ .not t27 k) fun t28 =>
        pickQ t23 (.bool true) t28 fun t29 =>
        gdQ t29 false (fun k => fa1 t4 2 k) fun t31 =>
        gdQ t29 false (fun k => ld1 w t31 k) fun t32 =>
        gd t29 false (fun k => callW Try.prog (.func (.func 56) #[] #[]) [t32] w k) w fun t33 w =>
        gdQ t29 false (fun k => unQ .not t33 k) fun t34 =>
        pickQ t29 (.bool true) t34 fun t35 =>
        gdQ t35 false (fun k => fa1 t4 3 k) fun t37 =>
        gdQ t35 false (fun k => ld1 w t37 k) fun t38 =>
        gd t35 false (fun k => callW Try.prog (.func (.func 56) #[] #[]) [t38] w k) w <| keepB w fun t39 w =>
        gdQ t35 false (fun k => unQ .not t39 k) fun t40 =>
        pickQ t35 (.bool true) t40 fun t41 =>
        gdQ t41 false (fun k => k t0) fun t43 =>
        gdQ t41 false (fun k => k t15) fun t44 =>
        gdQ t41 false (fun k => slS 4 t43 none (some t44) k) fun t45 =>
        gdQ t41 false (fun k => ldN 4 w t4 k) fun t46 =>
        gd t41 false (fun k => callW Try.prog (.func (.func 100) #[] #[]) [t45, t46] w k) w <| keepB w fun t47 w =>
        pickQ t41 (.bool true) t47 fun t48 =>
        condW t48 (
          R (.returned (.bool false)) w
        ) (
          binQ Try.prog w .add 3 true t15 (.int .i64 1) fun t49 =>
          next t49 w
        )
      ) (
        R (.returned (.bool true)) w
      )
  )

def A65 : Ann where
  live := fun
    | 0 => [15]
    | _ => []
  wr := fun
    | 0 => fun i => (Nat.ble 2 i && Nat.ble i 4) || (Nat.ble 15 i && Nat.ble i 49)
    | _ => fun _ => false
  sched := fun
    | 6 => (.take 0 (.take 1 (.eff 2 (.take 3 (.take 4 (.take 5 (.take 6 (.bar 7 (.take 8 (.take 9 (.take 10 (.take 11 (.take 12 (.bar 13 (.take 14 (.take 15 (.take 16 (.take 17 (.take 18 (.eff 19 (.take 20 (.take 21 (.take 22 (.take 23 (.take 24 (.take 25 (.take 26 (.eff 27 (.take 28 .done)))))))))))))))))))))))))))))
    | _ => .done

set_option maxRecDepth 100000 in
theorem ok65 : (codeOk Try.f65.ntmps A65 (Try.f65.body.getD .skip) 0 && Nat.ble 1 Try.f65.ntmps) = true := by kernel_rfl
set_option maxRecDepth 100000 in
theorem lift65 {t0 : Value} {w : World} {R : Ending → World → Prop} (h : S65 t0 w R) : Calls Try.prog 65 #[t0] w R :=
  calls_of_cw (fn := Try.f65) (c := Try.f65.body.getD .skip) A65 mixes Try.func65 (by kernel_rfl) ok65
    ((by kernel_rfl : (S65 t0 w R) = cw Try.prog A65 (Try.f65.body.getD .skip) 0 (bodyQ Try.prog Try.f65 R) (frOf #[t0]) w).mp h)

def S35 (t0 : Value) (w : World) (R : Ending → World → Prop) : Prop :=
  ln1 t0 fun t7 =>
  binQ Try.prog w .lss 3 true t7 (.int .i64 1) fun t8 =>
  gd t8 false (fun k => k t0 w) w fun t10 w =>
  gd t8 false (fun k => ln1 t10 fun v => k v w) w fun t11 w =>
  gd t8 false (fun k => binQ Try.prog w .gtr 3 true t11 (.int .i64 16) fun v => k v w) w fun t12 w =>
  pickQ t8 (.bool true) t12 fun t13 =>
  condW t13 (
    R (.returned (.bool false)) w
  ) (
    Loop1 (.int .i64 0) w fun _ t3 w next =>
      ln1 t0 fun t16 =>
      binQ Try.prog w .lss 3 false t3 t16 fun t17 =>
      condW t17 (
        iaS 4 t0 t3 fun t22 =>
        ldN 4 w t22 fun t23 =>
        boxW 32 (.agg #[(.int .i64 0), (.int .i64 0), (.int .i64 0), (.int .i64 0)]) w fun t4 w =>
        stW Try.prog 32 t4 t23 w fun w =>
        fa1 t4 0 fun t24 =>
        ld1 w t24 fun t25 =>
        callW Try.prog (.func (.func 62) #[] #[]) [t25] w fun t26 w =>
        unQ .not t26 fun t27 =>
        gd t27 false (fun k => fa1 t4 1 fun v => k v w) w fun t29 w =>
        gd t27 false (fun k => ld1 w t29 fun v => k v w) w fun t30 w =>
        gd t27 false (fun k => callW Try.prog (.func (.func 62) #[] #[]) [t30] w k) w fun t31 w =>
        gd t27 false (fun k => unQ .not t31 fun v => k v w) w fun t32 w =>
        pickQ t27 (.bool true) t32 fun t33 =>
        gd t33 false (fun k => fa1 t4 2 fun v => k v w) w fun t35 w =>
        gd t33 false (fun k => ld1 w t35 fun v => k v w) w fun t36 w =>
        gd t33 false (fun k => callW Try.prog (.func (.func 62) #[] #[]) [t36] w k) w fun t37 w =>
        gd t33 false (fun k => unQ .not t37 fun v => k v w) w fun t38 w =>
        pickQ t33 (.bool true) t38 fun t39 =>
        gd t39 false (fun k => fa1 t4 3 fun v => k v w) w fun t41 w =>
        gd t39 false (fun k => ld1 w t41 fun v => k v w) w fun t42 w =>
        gd t39 false (fun k => callW Try.prog (.func (.func 62) #[] #[]) [t42] w k) w fun t43 w =>
        gd t39 false (fun k => unQ .not t43 fun v => k v w) w fun t44 w =>
        pickQ t39 (.bool true) t44 fun t45 =>
        condW t45 (
          R (.returned (.bool false)) w
        ) (
          Loop1 (.int .i64 0) w fun _ t5 w next_2 =>
            binQ Try.prog w .lss 3 false t5 t3 fun t48 =>
            condW t48 (
              Drew w fun w =>
              iaS 4 t0 t5 fun t53 =>
              ldN 4 w t53 fun t54 =>
              ldN 4 w t4 fun t55 =>
              binQ Try.prog w .eql 32 false t54 t55 fun t56 =>
              condW t56 (
                R (.returned (.bool false)) w
              ) (
                binQ Try.prog w .add 3 true t5 (.int .i64 1) fun t50 =>
                next_2 t50 w
              )
            ) (
              binQ Try.prog w .add 3 true t3 (.int .i64 1) fun t19 =>
              next t19 w
            )
        )
      ) (
        R (.returned (.bool true)) w
      )
  )

def A35 : Ann where
  live := fun
    | 0 => [3]
    | 2 => [5]
    | _ => []
  wr := fun
    | 0 => fun i => (Nat.ble 2 i && Nat.ble i 5) || (Nat.ble 14 i && Nat.ble i 56)
    | 2 => fun i => Nat.beq i 2 || Nat.beq i 5 || (Nat.ble 46 i && Nat.ble i 56)
    | _ => fun _ => false
  sched := fun
    | 12 => (.take 0 (.take 1 (.take 2 (.take 3 (.take 4 (.take 5 .done))))))
    | _ => .done

set_option maxRecDepth 100000 in
theorem ok35 : (codeOk Try.f35.ntmps A35 (Try.f35.body.getD .skip) 0 && Nat.ble 1 Try.f35.ntmps) = true := by kernel_rfl
set_option maxRecDepth 100000 in
theorem lift35 {t0 : Value} {w : World} {R : Ending → World → Prop} (h : S35 t0 w R) : Calls Try.prog 35 #[t0] w R :=
  calls_of_cw (fn := Try.f35) (c := Try.f35.body.getD .skip) A35 mixes Try.func35 (by kernel_rfl) ok35
    ((by kernel_rfl : (S35 t0 w R) = cw Try.prog A35 (Try.f35.body.getD .skip) 0 (bodyQ Try.prog Try.f35 R) (frOf #[t0]) w).mp h)

def S53 (t0 t1 t2 : Value) (w : World) (R : Ending → World → Prop) : Prop :=
  callW Try.prog (.func (.func 65) #[] #[]) [t0] w fun t8 w =>
  unQ .not t8 fun t9 =>
  gd t9 false (fun k => k t1 w) w fun t11 w =>
  gd t9 false (fun k => callW Try.prog (.func (.func 66) #[] #[]) [t11] w k) w fun t12 w =>
  gd t9 false (fun k => unQ .not t12 fun v => k v w) w fun t13 w =>
  pickQ t9 (.bool true) t13 fun t14 =>
  gd t14 false (fun k => k t2 w) w fun t16 w =>
  gd t14 false (fun k => callW Try.prog (.func (.func 66) #[] #[]) [t16] w k) w fun t17 w =>
  gd t14 false (fun k => unQ .not t17 fun v => k v w) w fun t18 w =>
  pickQ t14 (.bool true) t18 fun t19 =>
  condW t19 (
    R (.returned (.int .i64 2)) w
  ) (
    R (.returned (.int .i64 0)) w
  )

def A53 : Ann where
  live := fun _ => []
  wr := fun _ _ => false
  sched := fun _ => .done

set_option maxRecDepth 100000 in
theorem ok53 : (codeOk Try.f53.ntmps A53 (Try.f53.body.getD .skip) 0 && Nat.ble 3 Try.f53.ntmps) = true := by kernel_rfl
set_option maxRecDepth 100000 in
theorem lift53 {t0 t1 t2 : Value} {w : World} {R : Ending → World → Prop} (h : S53 t0 t1 t2 w R) : Calls Try.prog 53 #[t0, t1, t2] w R :=
  calls_of_cw (fn := Try.f53) (c := Try.f53.body.getD .skip) A53 mixes Try.func53 (by kernel_rfl) ok53
    ((by kernel_rfl : (S53 t0 t1 t2 w R) = cw Try.prog A53 (Try.f53.body.getD .skip) 0 (bodyQ Try.prog Try.f53 R) (frOf #[t0, t1, t2]) w).mp h)

def S23 (t0 t1 t2 : Value) (w : World) (R : Ending → World → Prop) : Prop :=
  callW Try.prog (.func (.func 35) #[] #[]) [t0] w fun t8 w =>
  unQ .not t8 fun t9 =>
  gd t9 false (fun k => k t1 w) w fun t11 w =>
  gd t9 false (fun k => callW Try.prog (.func (.func 68) #[] #[]) [t11] w k) w fun t12 w =>
  gd t9 false (fun k => unQ .not t12 fun v => k v w) w fun t13 w =>
  pickQ t9 (.bool true) t13 fun t14 =>
  gd t14 false (fun k => k t2 w) w fun t16 w =>
  gd t14 false (fun k => callW Try.prog (.func (.func 68) #[] #[]) [t16] w k) w fun t17 w =>
  gd t14 false (fun k => unQ .not t17 fun v => k v w) w fun t18 w =>
  pickQ t14 (.bool true) t18 fun t19 =>
  condW t19 (
    R (.returned (.int .i64 2)) w
  ) (
    R (.returned (.int .i64 0)) w
  )

def A23 : Ann where
  live := fun _ => []
  wr := fun _ _ => false
  sched := fun _ => .done

set_option maxRecDepth 100000 in
theorem ok23 : (codeOk Try.f23.ntmps A23 (Try.f23.body.getD .skip) 0 && Nat.ble 3 Try.f23.ntmps) = true := by kernel_rfl
set_option maxRecDepth 100000 in
theorem lift23 {t0 t1 t2 : Value} {w : World} {R : Ending → World → Prop} (h : S23 t0 t1 t2 w R) : Calls Try.prog 23 #[t0, t1, t2] w R :=
  calls_of_cw (fn := Try.f23) (c := Try.f23.body.getD .skip) A23 mixes Try.func23 (by kernel_rfl) ok23
    ((by kernel_rfl : (S23 t0 t1 t2 w R) = cw Try.prog A23 (Try.f23.body.getD .skip) 0 (bodyQ Try.prog Try.f23 R) (frOf #[t0, t1, t2]) w).mp h)

def S73 (t0 : Value) (w : World) (R : Ending → World → Prop) : Prop :=
  Loop2 (.int .i64 1) (.int .i64 0) w fun _ t3 t5 w next =>
    binQ Try.prog w .lss 3 false t5 t0 fun t6 =>
    condW t6 (
      binQ Try.prog w .mul 3 true t3 (.int .i64 8) fun t8 =>
      binQ Try.prog w .add 3 true t5 (.int .i64 1) fun t9 =>
      next t8 t9 w
    ) (
      R (.returned t3) w
    )

def A73 : Ann where
  live := fun
    | 0 => [3, 5]
    | _ => []
  wr := fun
    | 0 => fun i => Nat.beq i 3 || (Nat.ble 5 i && Nat.ble i 9)
    | _ => fun _ => false
  sched := fun _ => .done

set_option maxRecDepth 100000 in
theorem ok73 : (codeOk Try.f73.ntmps A73 (Try.f73.body.getD .skip) 0 && Nat.ble 1 Try.f73.ntmps) = true := by kernel_rfl
set_option maxRecDepth 100000 in
theorem lift73 {t0 : Value} {w : World} {R : Ending → World → Prop} (h : S73 t0 w R) : Calls Try.prog 73 #[t0] w R :=
  calls_of_cw (fn := Try.f73) (c := Try.f73.body.getD .skip) A73 mixes Try.func73 (by kernel_rfl) ok73
    ((by kernel_rfl : (S73 t0 w R) = cw Try.prog A73 (Try.f73.body.getD .skip) 0 (bodyQ Try.prog Try.f73 R) (frOf #[t0]) w).mp h)

def S58 (t0 : Value) (w : World) (R : Ending → World → Prop) : Prop :=
  ln1 t0 fun t7 =>
  Loop2 (.int .i64 0) (.int .i64 0) w fun _ t3 t8 w next =>
    binQ Try.prog w .lss 3 false t8 t7 fun t9 =>
    condW t9 (
      iaS 1 t0 t8 fun t10 =>
      ld1 w t10 fun t11 =>
      binQ Try.prog w .mul 3 true t3 (.int .i64 8) fun t13 =>
      binQ Try.prog w .add 3 false t13 t11 fun t15 =>
      binQ Try.prog w .add 3 true t8 (.int .i64 1) fun t16 =>
      next t15 t16 w
    ) (
      R (.returned t3) w
    )

def A58 : Ann where
  live := fun
    | 0 => [3, 8]
    | _ => []
  wr := fun
    | 0 => fun i => Nat.beq i 3 || Nat.beq i 5 || (Nat.ble 8 i && Nat.ble i 16)
    | _ => fun _ => false
  sched := fun _ => .done

set_option maxRecDepth 100000 in
theorem ok58 : (codeOk Try.f58.ntmps A58 (Try.f58.body.getD .skip) 0 && Nat.ble 1 Try.f58.ntmps) = true := by kernel_rfl
set_option maxRecDepth 100000 in
theorem lift58 {t0 : Value} {w : World} {R : Ending → World → Prop} (h : S58 t0 w R) : Calls Try.prog 58 #[t0] w R :=
  calls_of_cw (fn := Try.f58) (c := Try.f58.body.getD .skip) A58 mixes Try.func58 (by kernel_rfl) ok58
    ((by kernel_rfl : (S58 t0 w R) = cw Try.prog A58 (Try.f58.body.getD .skip) 0 (bodyQ Try.prog Try.f58 R) (frOf #[t0]) w).mp h)

def S102 (t0 t1 : Value) (w : World) (R : Ending → World → Prop) : Prop :=
  ln1 t0 fun t7 =>
  Loop1 (.int .i64 0) w fun _ t8 w next =>
    binQ Try.prog w .lss 3 false t8 t7 fun t9 =>
    condW t9 (
      iaS 1 t0 t8 fun t14 =>
      ld1 w t14 fun t15 =>
      callW Try.prog t1 [t15] w fun t16 w =>
      condW t16 (
        R (.returned t8) w
      ) (
        binQ Try.prog w .add 3 true t8 (.int .i64 1) fun t18 =>
        next t18 w
      )
    ) (
      R (.returned (.int .i64 (-1))) w
    )

def A102 : Ann where
  live := fun
    | 0 => [8]
    | _ => []
  wr := fun
    | 0 => fun i => (Nat.ble 4 i && Nat.ble i 5) || (Nat.ble 8 i && Nat.ble i 18)
    | _ => fun _ => false
  sched := fun _ => .done

set_option maxRecDepth 100000 in
theorem ok102 : (codeOk Try.f102.ntmps A102 (Try.f102.body.getD .skip) 0 && Nat.ble 2 Try.f102.ntmps) = true := by kernel_rfl
set_option maxRecDepth 100000 in
theorem lift102 {t0 t1 : Value} {w : World} {R : Ending → World → Prop} (h : S102 t0 t1 w R) : Calls Try.prog 102 #[t0, t1] w R :=
  calls_of_cw (fn := Try.f102) (c := Try.f102.body.getD .skip) A102 mixes Try.func102 (by kernel_rfl) ok102
    ((by kernel_rfl : (S102 t0 t1 w R) = cw Try.prog A102 (Try.f102.body.getD .skip) 0 (bodyQ Try.prog Try.f102 R) (frOf #[t0, t1]) w).mp h)

def S54 (t0 t1 : Value) (w : World) (R : Ending → World → Prop) : Prop :=
  callW Try.prog (.func (.func 102) #[] #[]) [t0, t1] w fun t7 w =>
  binQ Try.prog w .geq 3 true t7 (.int .i64 0) fun t8 =>
  R (.returned t8) w

def A54 : Ann where
  live := fun _ => []
  wr := fun _ _ => false
  sched := fun _ => .done

set_option maxRecDepth 100000 in
theorem ok54 : (codeOk Try.f54.ntmps A54 (Try.f54.body.getD .skip) 0 && Nat.ble 2 Try.f54.ntmps) = true := by kernel_rfl
set_option maxRecDepth 100000 in
theorem lift54 {t0 t1 : Value} {w : World} {R : Ending → World → Prop} (h : S54 t0 t1 w R) : Calls Try.prog 54 #[t0, t1] w R :=
  calls_of_cw (fn := Try.f54) (c := Try.f54.body.getD .skip) A54 mixes Try.func54 (by kernel_rfl) ok54
    ((by kernel_rfl : (S54 t0 t1 w R) = cw Try.prog A54 (Try.f54.body.getD .skip) 0 (bodyQ Try.prog Try.f54 R) (frOf #[t0, t1]) w).mp h)

def S55 (t0 : Value) (w : World) (R : Ending → World → Prop) : Prop :=
  callW Try.prog (.func (.func 56) #[] #[]) [t0] w fun t4 w =>
  unQ .not t4 fun t5 =>
  R (.returned t5) w

def A55 : Ann where
  live := fun _ => []
  wr := fun _ _ => false
  sched := fun _ => .done

set_option maxRecDepth 100000 in
theorem ok55 : (codeOk Try.f55.ntmps A55 (Try.f55.body.getD .skip) 0 && Nat.ble 1 Try.f55.ntmps) = true := by kernel_rfl
set_option maxRecDepth 100000 in
theorem lift55 {t0 : Value} {w : World} {R : Ending → World → Prop} (h : S55 t0 w R) : Calls Try.prog 55 #[t0] w R :=
  calls_of_cw (fn := Try.f55) (c := Try.f55.body.getD .skip) A55 mixes Try.func55 (by kernel_rfl) ok55
    ((by kernel_rfl : (S55 t0 w R) = cw Try.prog A55 (Try.f55.body.getD .skip) 0 (bodyQ Try.prog Try.f55 R) (frOf #[t0]) w).mp h)

def S118 (t0 : Value) (w : World) (R : Ending → World → Prop) : Prop :=
  binQ Try.prog w .neq 3 false t0 t0 fun t5 =>
  R (.returned t5) w

def A118 : Ann where
  live := fun _ => []
  wr := fun _ _ => false
  sched := fun _ => .done

set_option maxRecDepth 100000 in
theorem ok118 : (codeOk Try.f118.ntmps A118 (Try.f118.body.getD .skip) 0 && Nat.ble 1 Try.f118.ntmps) = true := by kernel_rfl
set_option maxRecDepth 100000 in
theorem lift118 {t0 : Value} {w : World} {R : Ending → World → Prop} (h : S118 t0 w R) : Calls Try.prog 118 #[t0] w R :=
  calls_of_cw (fn := Try.f118) (c := Try.f118.body.getD .skip) A118 mixes Try.func118 (by kernel_rfl) ok118
    ((by kernel_rfl : (S118 t0 w R) = cw Try.prog A118 (Try.f118.body.getD .skip) 0 (bodyQ Try.prog Try.f118 R) (frOf #[t0]) w).mp h)

def S103 (t0 t1 : Value) (w : World) (R : Ending → World → Prop) : Prop :=
  callW Try.prog (.func (.func 118) #[] #[]) [t0] w fun t8 w =>
  callW Try.prog (.func (.func 118) #[] #[]) [t1] w fun t10 w =>
  condW t8 (
    condW t10 (
      R (.returned (.int .i64 0)) w
    ) (
      R (.returned (.int .i64 (-1))) w
    )
  ) (
    condW t10 (
      R (.returned (.int .i64 1)) w
    ) (
      binQ Try.prog w .lss 3 false t0 t1 fun t16 =>
      condW t16 (
        R (.returned (.int .i64 (-1))) w
      ) (
        binQ Try.prog w .gtr 3 false t0 t1 fun t19 =>
        condW t19 (
          R (.returned (.int .i64 1)) w
        ) (
          R (.returned (.int .i64 0)) w
        )
      )
    )
  )

def A103 : Ann where
  live := fun _ => []
  wr := fun _ _ => false
  sched := fun _ => .done

set_option maxRecDepth 100000 in
theorem ok103 : (codeOk Try.f103.ntmps A103 (Try.f103.body.getD .skip) 0 && Nat.ble 2 Try.f103.ntmps) = true := by kernel_rfl
set_option maxRecDepth 100000 in
theorem lift103 {t0 t1 : Value} {w : World} {R : Ending → World → Prop} (h : S103 t0 t1 w R) : Calls Try.prog 103 #[t0, t1] w R :=
  calls_of_cw (fn := Try.f103) (c := Try.f103.body.getD .skip) A103 mixes Try.func103 (by kernel_rfl) ok103
    ((by kernel_rfl : (S103 t0 t1 w R) = cw Try.prog A103 (Try.f103.body.getD .skip) 0 (bodyQ Try.prog Try.f103 R) (frOf #[t0, t1]) w).mp h)

def S57 (t0 t1 : Value) (w : World) (R : Ending → World → Prop) : Prop :=
  ln1 t0 fun t10 =>
  Loop1 (.int .i64 0) w fun _ t11 w next =>
    binQ Try.prog w .lss 3 false t11 t10 fun t12 =>
    condW t12 (
      iaS 1 t0 t11 fun t14 =>
      ld1 w t14 fun t15 =>
      ln1 t1 fun t18 =>
      binQ Try.prog w .geq 3 false t11 t18 fun t19 =>
      condW t19 (
        R (.returned (.int .i64 1)) w
      ) (
        iaS 1 t1 t11 fun t22 =>
        ld1 w t22 fun t23 =>
        callW Try.prog (.func (.func 103) #[] #[]) [t15, t23] w fun t26 w =>
        binQ Try.prog w .neq 3 true t26 (.int .i64 0) fun t28 =>
        condW t28 (
          R (.returned t26) w
        ) (
          binQ Try.prog w .add 3 true t11 (.int .i64 1) fun t30 =>
          next t30 w
        )
      )
    ) (
      ln1 t0 fun t32 =>
      ln1 t1 fun t34 =>
      binQ Try.prog w .lss 3 false t32 t34 fun t35 =>
      condW t35 (
        R (.returned (.int .i64 (-1))) w
      ) (
        R (.returned (.int .i64 0)) w
      )
    )

def A57 : Ann where
  live := fun
    | 0 => [11]
    | _ => []
  wr := fun
    | 0 => fun i => (Nat.ble 4 i && Nat.ble i 8) || (Nat.ble 11 i && Nat.ble i 30)
    | _ => fun _ => false
  sched := fun _ => .done

set_option maxRecDepth 100000 in
theorem ok57 : (codeOk Try.f57.ntmps A57 (Try.f57.body.getD .skip) 0 && Nat.ble 2 Try.f57.ntmps) = true := by kernel_rfl
set_option maxRecDepth 100000 in
theorem lift57 {t0 t1 : Value} {w : World} {R : Ending → World → Prop} (h : S57 t0 t1 w R) : Calls Try.prog 57 #[t0, t1] w R :=
  calls_of_cw (fn := Try.f57) (c := Try.f57.body.getD .skip) A57 mixes Try.func57 (by kernel_rfl) ok57
    ((by kernel_rfl : (S57 t0 t1 w R) = cw Try.prog A57 (Try.f57.body.getD .skip) 0 (bodyQ Try.prog Try.f57 R) (frOf #[t0, t1]) w).mp h)

theorem fok56 : fnOk Try.prog 56 = true := by kernel_rfl
theorem fok62 : fnOk Try.prog 62 = true := by kernel_rfl
theorem fok66 : fnOk Try.prog 66 = true := by kernel_rfl
theorem fok68 : fnOk Try.prog 68 = true := by kernel_rfl
theorem fok117 : fnOk Try.prog 117 = true := by kernel_rfl
theorem fok100 : fnOk Try.prog 100 = true := by kernel_rfl
theorem fok65 : fnOk Try.prog 65 = true := by kernel_rfl
theorem fok35 : fnOk Try.prog 35 = true := by kernel_rfl
theorem fok53 : fnOk Try.prog 53 = true := by kernel_rfl
theorem fok23 : fnOk Try.prog 23 = true := by kernel_rfl
theorem fok73 : fnOk Try.prog 73 = true := by kernel_rfl
theorem fok58 : fnOk Try.prog 58 = true := by kernel_rfl
theorem fok102 : fnOk Try.prog 102 = true := by kernel_rfl
theorem fok54 : fnOk Try.prog 54 = true := by kernel_rfl
theorem fok55 : fnOk Try.prog 55 = true := by kernel_rfl
theorem fok118 : fnOk Try.prog 118 = true := by kernel_rfl
theorem fok103 : fnOk Try.prog 103 = true := by kernel_rfl
theorem fok57 : fnOk Try.prog 57 = true := by kernel_rfl
end Go.Proofs.Ytgalbokmgffhkaa
