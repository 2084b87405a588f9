/- Texts of my own, merged by program: Recs Ru. -/
import Derived.Test.YtbekeccfjmoonaaDoorM08
import Derived.Test.YtbekeccfjmoonaaDoorM07
set_option linter.all false
/- Records in memory: slices that are read as lists of records, slices of one's own that grow and are written. -/
namespace Go.Proofs.YtbekeccfjmoonaaDoor
open Go.Lf Go.RowKit

section
variable {α : Type} {m : Nat} {enc : α → List Value}

/-- The slice v reads as the records l, each of m cells. -/
def Rd (m : Nat) (enc : α → List Value) (w : World) (v : Value) (l : List α) : Prop :=
  ∃ a cap, v = .slice a l.length cap ∧ l.length ≤ cap ∧ (0 < l.length → ∃ b off, a = some ⟨b, off, none⟩ ∧ ∀ i x, l[i]? = some x → ∀ j u, (enc x)[j]? = some u → w.cell? ⟨b, off + i * m + j, none⟩ = some u)

theorem Rd.cells {w w' : World} {v : Value} {l : List α} (h : Rd m enc w v l) (hc : ∀ a x, w.cell? a = some x → w'.cell? a = some x) : Rd m enc w' v l := by
  obtain ⟨a, cap, rfl, hl, hh⟩ := h
  refine ⟨a, cap, rfl, hl, fun h0 => ?_⟩
  obtain ⟨b, off, rfl, hcell⟩ := hh h0
  exact ⟨b, off, rfl, fun i x hi j u hu => hc _ _ (hcell i x hi j u hu)⟩
theorem Rd.kp {w w' : World} {v : Value} {l : List α} (h : Rd m enc w v l) (hk : Kp w w') : Rd m enc w' v l := h.cells fun _ _ hx => cell_later hk hx
theorem Rd.len {w : World} {v : Value} {l : List α} (h : Rd m enc w v l) : ∃ a cap, v = .slice a l.length cap ∧ l.length ≤ cap :=
  let ⟨a, cap, e, hl, _⟩ := h; ⟨a, cap, e, hl⟩
theorem Rd.at {w : World} {v : Value} {l : List α} (h : Rd m enc w v l) {i : Nat} {x : α} (hi : l[i]? = some x) :
    ∃ b off cap, v = .slice (some ⟨b, off, none⟩) l.length cap ∧ i < l.length ∧ ∀ j u, (enc x)[j]? = some u → w.cell? ⟨b, off + i * m + j, none⟩ = some u := by
  obtain ⟨a, cap, rfl, _, hh⟩ := h
  have hlt : i < l.length := (List.getElem?_eq_some_iff.1 hi).1
  obtain ⟨b, off, rfl, hcell⟩ := hh (by omega)
  exact ⟨b, off, cap, rfl, hlt, fun j u hu => hcell i x hi j u hu⟩
theorem Rd.nil {w : World} {a : Option Addr} {cap : Nat} : Rd m enc w (.slice a 0 cap) [] := ⟨a, cap, rfl, Nat.zero_le _, fun h => absurd h (by simp)⟩
/-- The block that a slice that is read lies in. -/
theorem Rd.block {w : World} {v : Value} {l : List α} (h : Rd m enc w v l) (h0 : ∀ x, 0 < (enc x).length) {b off : Nat} {n cap : Nat} (e : v = .slice (some ⟨b, off, none⟩) n cap) (hl : 0 < l.length) : b < w.heap.size := by
  obtain ⟨a, cap, rfl, _, hh⟩ := h
  obtain ⟨b', off', rfl, hcell⟩ := hh hl
  injection e with e1 _ _
  injection e1 with e1
  injection e1 with e1 _ _
  subst e1
  obtain ⟨x, hx⟩ : ∃ x, l[0]? = some x := ⟨_, List.getElem?_eq_getElem hl⟩
  obtain ⟨u, hu⟩ : ∃ u, (enc x)[0]? = some u := ⟨_, List.getElem?_eq_getElem (h0 x)⟩
  exact World.block_lt_of_cell? w _ (hcell 0 x hx 0 u hu)

/-- The part of a slice in front. -/
theorem Rd.take {w : World} {a : Option Addr} {n cap : Nat} {l : List α} (h : Rd m enc w (.slice a n cap) l) {i : Nat} (hi : i ≤ l.length) : Rd m enc w (.slice a i cap) (l.take i) := by
  obtain ⟨a', cap', e, hlc, hh⟩ := h
  cases e
  have hl : (l.take i).length = i := by rw [List.length_take]; omega
  refine ⟨a, cap, by rw [hl], by omega, fun h0 => ?_⟩
  obtain ⟨b, off, rfl, hcell⟩ := hh (by omega)
  refine ⟨b, off, rfl, fun k x hk j u hu => hcell k x ?_ j u hu⟩
  rw [List.getElem?_take] at hk
  split at hk
  · exact hk
  · cases hk

theorem cellsAt_eq {w : World} {b o : Nat} {l : List Value} (h : ∀ j u, l[j]? = some u → w.cell? ⟨b, o + j, none⟩ = some u) : ∀ (n i : Nat), i + n ≤ l.length → cellsAt w ⟨b, o, none⟩ n i = some ((l.drop i).take n)
  | 0, i, _ => by simp [cellsAt]
  | n + 1, i, hn => by
    have hlt : i < l.length := by omega
    have ih := cellsAt_eq h n (i + 1) (by omega)
    have hc := h i l[i] (List.getElem?_eq_getElem hlt)
    simp only [cellsAt, r_addr, hc, ih]
    rw [List.drop_eq_getElem_cons hlt, List.take_succ_cons]
/-- A struct that is read whole. -/
theorem r_ldCells {w : World} {b o n : Nat} {l : List Value} {K : Value → Prop} (hn : l.length = n) (h : ∀ j u, l[j]? = some u → w.cell? ⟨b, o + j, none⟩ = some u) : ldN n w (.pointer (some ⟨b, o, none⟩)) K = K (.agg l.toArray) := by
  have := cellsAt_eq h n 0 (by omega)
  simp only [ldN, this, List.drop_zero]
  rw [List.take_of_length_le (by omega)]

/-! ### one's own -/

def recCells (enc : α → List Value) (P : List α) : List Value := P.flatMap enc
theorem recCells_append (P Q : List α) : recCells enc (P ++ Q) = recCells enc P ++ recCells enc Q := by simp [recCells]
theorem recCells_length (he : ∀ x, (enc x).length = m) : ∀ P : List α, (recCells enc P).length = P.length * m
  | [] => by simp [recCells]
  | p :: P => by
    have := recCells_length he P
    simp only [recCells, List.flatMap_cons, List.length_append, List.length_cons] at *
    rw [this, he, Nat.add_mul]
    omega
theorem recCells_at (he : ∀ x, (enc x).length = m) : ∀ (P : List α) (q j : Nat) (p : α), P[q]? = some p → j < m → (recCells enc P)[q * m + j]? = (enc p)[j]?
  | p :: P, 0, j, _, h, hj => by
    cases h
    simp only [recCells, List.flatMap_cons, Nat.zero_mul, Nat.zero_add]
    rw [List.getElem?_append_left (by rw [he]; exact hj)]
  | p' :: P, q + 1, j, p, h, hj => by
    have := recCells_at he P q j p (by simpa using h) hj
    simp only [recCells, List.flatMap_cons] at this ⊢
    rw [List.getElem?_append_right (by rw [he, Nat.add_mul]; omega), he, show (q + 1) * m + j - m = q * m + j by rw [Nat.add_mul]; omega]
    exact this
theorem recCells_set (he : ∀ x, (enc x).length = m) {u : Value} {p' : α} : ∀ (P : List α) (q j : Nat) (p : α), P[q]? = some p → j < m → enc p' = (enc p).set j u → recCells enc (P.set q p') = (recCells enc P).set (q * m + j) u
  | p :: P, 0, j, _, h, hj, e => by
    cases h
    simp only [recCells, List.flatMap_cons, List.set_cons_zero, Nat.zero_mul, Nat.zero_add]
    rw [List.set_append_left _ _ (by rw [he]; exact hj), e]
  | p1 :: P, q + 1, j, p, h, hj, e => by
    have := recCells_set he P q j p (by simpa using h) hj e
    simp only [recCells, List.flatMap_cons, List.set_cons_succ] at this ⊢
    rw [List.set_append_right _ _ (by rw [he, Nat.add_mul]; omega), he, show (q + 1) * m + j - m = q * m + j by rw [Nat.add_mul]; omega, this]

/-- The slice v holds the records P, in a block of its own not below base. -/
def RecAt (e : TypeId) (m : Nat) (enc : α → List Value) (base : Nat) (w : World) (v : Value) (P : List α) : Prop := w.ownsRow base e m v P.length (recCells enc P)

variable {e : TypeId} {base : Nat} {w w' : World} {v : Value} {P : List α}

theorem RecAt.kp (h : RecAt e m enc base w v P) (hk : Kp w w') : RecAt e m enc base w' v P := owns_kp h hk
theorem RecAt.nil : RecAt e m enc base w (.slice none 0 0) [] := World.ownsRow_nil _ _ _ _
theorem RecAt.chg {S : Nat → Prop} (h : RecAt e m enc base w v P) (hc : Chg S w w') (hs : ∀ k, v.ownBlock = some k → ¬ S k) : RecAt e m enc base w' v P := owns_chg h hc hs
theorem RecAt.lt (h : RecAt e m enc base w v P) {k : Nat} (hk : v.ownBlock = some k) : base ≤ k ∧ k < w.heap.size := World.ownsRow.lt h k hk
theorem RecAt.down {base' : Nat} (h : RecAt e m enc base w v P) (hb : base' ≤ base) : RecAt e m enc base' w v P :=
  ⟨h.1, h.2.imp id fun ⟨g, cap, cur, r1, r2, r3⟩ => ⟨g, cap, cur, r1, by omega, r3⟩⟩
theorem RecAt.len (h : RecAt e m enc base w v P) : ∃ a cap, v = .slice a P.length cap ∧ P.length ≤ cap := by
  rcases h.2 with ⟨rfl, hn⟩ | ⟨g, cap, cur, e, _, _, hle, _⟩
  · exact ⟨none, 0, by rw [hn], by omega⟩
  · exact ⟨_, _, e, hle⟩
theorem RecAt.blk (h : RecAt e m enc base w v P) (h0 : 0 < P.length) :
    ∃ g cap cur, v = .slice (some ⟨g, 0, none⟩) P.length cap ∧ base ≤ g ∧ w.heap[g]? = some (.cells cur e (0, 0)) ∧ P.length ≤ cap ∧ cap ≤ maxLen ∧ cur.size = cap * m ∧ cur.toList.take (P.length * m) = recCells enc P := by
  rcases h.2 with ⟨_, hn⟩ | ⟨g, cap, cur, r⟩
  · omega
  · exact ⟨g, cap, cur, r⟩

theorem RecAt.rd (he : ∀ x, (enc x).length = m) (h : RecAt e m enc base w v P) : Rd m enc w v P := by
  obtain ⟨a, cap, rfl, hlc⟩ := h.len
  refine ⟨a, cap, rfl, hlc, fun h0 => ?_⟩
  obtain ⟨g, cap', cur, e1, _, hg, hle, _, hs, ht⟩ := h.blk h0
  cases e1
  refine ⟨g, 0, rfl, fun i x hi j u hu => ?_⟩
  have hi' : i < P.length := (List.getElem?_eq_some_iff.1 hi).1
  have hj : j < m := by rw [← he x]; exact (List.getElem?_eq_some_iff.1 hu).1
  have h1 := recCells_at he P i j x hi hj
  have hlt : i * m + j < P.length * m := by
    have : (i + 1) * m ≤ P.length * m := Nat.mul_le_mul_right m hi'
    rw [Nat.add_mul] at this
    omega
  rw [← ht, List.getElem?_take, if_pos hlt, hu] at h1
  rw [Nat.zero_add, cell_row hg]
  simpa using h1

/-- A store into one cell of a record. -/
theorem RecAt.set (he : ∀ x, (enc x).length = m) (h : RecAt e m enc base w v P) {q j : Nat} {p p' : α} {u : Value} (hq : P[q]? = some p) (hj : j < m) (hp : enc p' = (enc p).set j u) :
    ∃ g cap, v = .slice (some ⟨g, 0, none⟩) P.length cap ∧ base ≤ g ∧ (∃ x, w.cell? ⟨g, q * m + j, none⟩ = some x) ∧ w.frozen? ⟨g, q * m + j, none⟩ = false ∧ RecAt e m enc base (w.setCell ⟨g, q * m + j, none⟩ u) v (P.set q p') := by
  have hq' : q < P.length := (List.getElem?_eq_some_iff.1 hq).1
  obtain ⟨g, cap, cur, e1, hb, hg, hle, hm, hs, ht⟩ := h.blk (by omega)
  have hlt : q * m + j < P.length * m := by
    have : (q + 1) * m ≤ P.length * m := Nat.mul_le_mul_right m hq'
    rw [Nat.add_mul] at this
    omega
  have hlt2 : q * m + j < cur.size := by
    have : P.length * m ≤ cap * m := Nat.mul_le_mul_right m hle
    omega
  refine ⟨g, cap, e1, hb, ⟨cur[q * m + j], by rw [cell_row hg]; simp [hlt2]⟩, frozen_row hg, ?_⟩
  refine ⟨?_, .inr ⟨g, cap, cur.setIfInBounds (q * m + j) u, by rw [List.length_set]; exact e1, hb, setCell_block (o := q * m + j) (v := u) hg rfl, by rw [List.length_set]; exact hle, hm, by simpa using hs, ?_⟩⟩
  · rw [recCells_length he]
  · rw [List.length_set, recCells_set he P q j p hq hj hp, ← ht]
    simp [List.take_set]

/-- Reading stays while other blocks turn. -/
theorem Rd.chg {S : Nat → Prop} {w w' : World} {v : Value} {l : List α} (h : Rd m enc w v l) (hc : Chg S w w') (hs : ∀ b off n cap, v = .slice (some ⟨b, off, none⟩) n cap → ¬ S b) : Rd m enc w' v l := by
  obtain ⟨a, cap, rfl, hl, hh⟩ := h
  refine ⟨a, cap, rfl, hl, fun h0 => ?_⟩
  obtain ⟨b, off, rfl, hcell⟩ := hh h0
  exact ⟨b, off, rfl, fun i x hi j u hu => hc.cell (hcell i x hi j u hu) (hs _ _ _ _ rfl)⟩

end
set_option maxRecDepth 100000 in
/-- append(v, x): and where the new slice lies. -/
theorem r_pushAt {t e ty : TypeId} {size bytes base n : Nat} {v x : Value} {xs : List Value} {w : World} {K : Value → World → Prop} (T : SlT t e size bytes)
    (hbs : ∀ K : Value → World → Prop, bsW Tryd.prog t 1 [(0, x)] w K = K (.slice (some ⟨w.heap.size, 0, none⟩) 1 1) (w.alloc (.cells x.cells e)))
    (hx : x.cells.size = size) (h1 : ∀ u ∈ x.cells.toList, u.oneCell' = true) (hown : w.ownsRow base e size v n xs) (hn : n + 1 ≤ 1099511627776) (hby : bytes ≤ 128) (hb : base ≤ w.heap.size)
    (hk : ∀ v' w', w'.ownsRow base e size v' (n + 1) (xs ++ x.cells.toList) → w.grownBy w' v.ownBlock → (v'.ownBlock = v.ownBlock ∨ ∃ b, v'.ownBlock = some b ∧ w.heap.size ≤ b) → K v' w') :
    bsW Tryd.prog t 1 [(0, x)] w fun s w => semW Tryd.prog (apS [t, t] ty [v, s]) w K := by
  rw [hbs]
  obtain ⟨i, z, i1, i2, i3, i4, i5⟩ := T.info
  have hb2 : (n + 1) * bytes ≤ 140737488355328 := Nat.le_trans (Nat.mul_le_mul hn hby) (by decide)
  have hsz : (w.alloc (.cells x.cells e)).heap.size = w.heap.size + 1 := by show (w.heap.push _).size = _; simp
  obtain ⟨v', w', hr, ho, hg, _, hat⟩ := run_append_own_at (P := Tryd.prog) (w := w.alloc (.cells x.cells e)) base t ty e i z size bytes T.und i1 i2 i3 i4 i5 T.pos v n xs (hown.alloc _) ⟨w.heap.size, 0, none⟩ 1 1 x.cells.toList (by simp [hx]) (cells_at_row (heap_alloc_new w _)) h1 (by unfold maxLen; omega) hb2 (by omega)
  refine semW_of_run (by simp [apS, hr]) (hk v' w' ho ?_ (hat.imp id fun h => ⟨_, h, by omega⟩))
  exact ⟨hg.os, hg.tape, hg.output, Nat.le_trans (by show _ ≤ (w.heap.push _).size; simp) hg.size, fun k hlt hne => (hg.block k (by show k < (w.heap.push _).size; simp; omega) hne).trans (Below.heap_alloc w _ k hlt)⟩


set_option maxRecDepth 100000 in
/-- append(v, x) at records. -/
theorem r_pushRec {α : Type} {m bytes base : Nat} {enc : α → List Value} {t e ty : TypeId} {w : World} {v xv : Value} {P : List α} {x : α} {K : Value → World → Prop} (T : SlT t e m bytes) (he : ∀ x, (enc x).length = m) (hxv : xv.cells = (enc x).toArray)
    (hbs : ∀ K : Value → World → Prop, bsW Tryd.prog t 1 [(0, xv)] w K = K (.slice (some ⟨w.heap.size, 0, none⟩) 1 1) (w.alloc (.cells xv.cells e)))
    (h1 : ∀ u ∈ enc x, u.oneCell' = true) (hby : bytes ≤ 128) (h : RecAt e m enc base w v P) (hn : P.length + 1 ≤ 1000000) (hb : base ≤ w.heap.size)
    (hk : ∀ v' w', RecAt e m enc base w' v' (P ++ [x]) → Chg (fun k => v.ownBlock = some k) w w' → (∀ k, v'.ownBlock = some k → v.ownBlock = some k ∨ w.heap.size ≤ k) → K v' w') :
    bsW Tryd.prog t 1 [(0, xv)] w fun s w => semW Tryd.prog (apS [t, t] ty [v, s]) w K :=
  r_pushAt T hbs (by rw [hxv]; simpa using he x) (by rw [hxv]; simpa using h1) h (by omega) hby hb fun v' w' ho hg hat => by
    refine hk v' w' ?_ (Chg.of_grown hg fun k hk => hk) fun k hk => ?_
    · unfold RecAt
      rw [recCells_append, List.length_append]
      rw [hxv] at ho
      simpa [recCells] using ho
    · rcases hat with h | ⟨b, h, hlt⟩
      · exact .inl (h ▸ hk)
      · rw [h] at hk
        cases hk
        exact .inr hlt

end Go.Proofs.YtbekeccfjmoonaaDoor

/- Rules for what is not asked. -/
namespace Go.Proofs.YtbekeccfjmoonaaDoor
open Go.Lf Go.RowKit

theorem r_gqU {want : Bool} {run : (Value → Prop) → Prop} {K : Value → Prop} : gdQ undef want run K = K undef := rfl
theorem r_gdU {want : Bool} {run : (Value → World → Prop) → Prop} {w : World} {K : Value → World → Prop} : gd undef want run w K = K undef w := rfl

end Go.Proofs.YtbekeccfjmoonaaDoor
