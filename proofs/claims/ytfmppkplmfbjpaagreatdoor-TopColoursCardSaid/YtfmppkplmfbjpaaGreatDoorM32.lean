/- Texts of my own, merged by program: Wn Wo. -/
import Derived.Test.YtfmppkplmfbjpaaGreatDoorM30
import Derived.Test.YtfmppkplmfbjpaaGreatDoorM31
set_option linter.all false
/- Closed boards as tiles at places: the program counts one exactly where there is one. No program. -/
namespace Go.Proofs.YtfmppkplmfbjpaaGreatDoor
open Go.Wg

def closeR (l : List Tile) (W : Nat) : List (List Nat) := (rowsL l W).filter (closes l)
theorem pt_map {α β : Type} (φ : α → β) (C : List α) (f g : β → Int) (a : Int) : ∀ (k : Nat) (c : Int), Pt (C.map φ) f g a k c = Pt C (fun x => f (φ x)) (fun x => g (φ x)) a k c
  | 0, _ => rfl
  | k + 1, c => by
    unfold Pt
    have key : ∀ (F : β → Nat) (C : List α), tot F (C.map φ) = tot (fun x => F (φ x)) C := fun F C => by
      induction C with
      | nil => rfl
      | cons x C ih => simp only [List.map_cons, tot]; rw [ih]
    rw [key]
    refine tot_congr fun x _ => ?_
    rw [pt_map φ C f g a k]
theorem round_map {α β : Type} (φ : α → β) (C : List α) (f g : β → Int) (n : Nat) : roundN (C.map φ) f g n = roundN C (fun x => f (φ x)) (fun x => g (φ x)) n := by
  unfold roundN
  have key : ∀ (F : β → Nat) (C : List α), tot F (C.map φ) = tot (fun x => F (φ x)) C := fun F C => by
    induction C with
    | nil => rfl
    | cons x C ih => simp only [List.map_cons, tot]; rw [ih]
  rw [key]
  exact tot_congr fun x _ => pt_map φ C f g _ _ _
abbrev cN (l : List Tile) (r : List Nat) : Int := code (norths l r)
abbrev cS (l : List Tile) (r : List Nat) : Int := code (souths l r)
theorem closed_rows {l : List Tile} (hs : IsSet l) {W h : Nat} (hW : 1 ≤ W ∧ W ≤ 4) (hh : 0 < h) : closedV l W h = capI (roundN (closeR l W) (cN l) (cS l) h) := by
  rw [closedV_exact hs hW hh]
  have e : closedL (linesL l W) = (closeR l W).map (lineOf l) := by
    unfold closedL linesL closeR
    rw [List.filter_map]
    rfl
  rw [e, round_map]
  rfl

/-- A closed board. -/
structure ClT (l : List Tile) (T : Nat → Nat → Nat) (w h : Nat) : Prop where
  lt : ∀ y x, y < h → x < w → T y x < l.length
  ew : ∀ y x, y < h → x < w → tE (tl l (T y x)) = tW (tl l (T y ((x + 1) % w)))
  sn : ∀ y x, y < h → x < w → tS (tl l (T y x)) = tN (tl l (T ((y + 1) % h) x))

theorem row_getD {w x : Nat} {f : Nat → Nat} (hx : x < w) : ((List.range w).map f).getD x 0 = f x := by
  rw [getD_lt _ _ _ (by simpa using hx)]; simp

theorem pos_of_closed {l : List Tile} (hs : IsSet l) {T : Nat → Nat → Nat} {w h : Nat} (hw : 1 ≤ w ∧ w ≤ 4) (hh : 0 < h) (c : ClT l T w h) : 0 < closedV l w h := by
  rw [closed_rows hs hw hh]
  have hrow : ∀ y, y < h → (List.range w).map (T y) ∈ closeR l w := fun y hy => by
    refine List.mem_filter.2 ⟨mem_rowsL.2 ⟨by simp, fun i hi => ?_, fun k hk => ?_⟩, ?_⟩
    · obtain ⟨x, hx, rfl⟩ := List.mem_map.1 hi
      exact c.lt y x hy (List.mem_range.1 hx)
    · have hk' : k + 1 < w := by simpa using hk
      rw [row_getD (by omega), row_getD hk']
      have := c.ew y k hy (by omega)
      rwa [Nat.mod_eq_of_lt hk'] at this
    · unfold closes
      refine decide_eq_true ?_
      rw [last_get (n := w - 1) (by simp; omega), row_getD (by omega), row_getD (by omega)]
      have := c.ew y (w - 1) hy (by omega)
      rw [show w - 1 + 1 = w by omega, Nat.mod_self] at this
      exact this.symm
  have hmem : ∀ y, y < h → (List.range w).map (T y) ∈ rowsL l w := fun y hy => (List.mem_filter.1 (hrow y hy)).1
  have hnext : ∀ y, y < h → cS l ((List.range w).map (T y)) = cN l ((List.range w).map (T ((y + 1) % h))) := fun y hy => by
    have hy2 : (y + 1) % h < h := Nat.mod_lt _ hh
    refine (code_match hs (hmem y hy) (hmem _ hy2)).2 fun x hx => ?_
    rw [row_getD hx, row_getD hx]
    exact c.sn y x hy hx
  have hpt : ∀ k, k < h → 0 < Pt (closeR l w) (cN l) (cS l) (cN l ((List.range w).map (T 0))) k (cN l ((List.range w).map (T k))) := by
    intro k
    induction k with
    | zero => intro _; unfold Pt; rw [if_pos rfl]; omega
    | succ k ih =>
      intro hk
      unfold Pt
      refine tot_pos.2 ⟨_, hrow k (by omega), ?_⟩
      have e := hnext k (by omega)
      rw [Nat.mod_eq_of_lt hk] at e
      rw [if_pos e]
      exact ih (by omega)
  have hr : 0 < roundN (closeR l w) (cN l) (cS l) h := by
    unfold roundN
    refine tot_pos.2 ⟨_, hrow (h - 1) (by omega), ?_⟩
    have e := hnext (h - 1) (by omega)
    rw [show h - 1 + 1 = h by omega, Nat.mod_self] at e
    rw [e]
    exact hpt (h - 1) (by omega)
  unfold capI
  omega

theorem closed_of_pos {l : List Tile} (hs : IsSet l) {w h : Nat} (hw : 1 ≤ w ∧ w ≤ 4) (hh : 0 < h) (hp : 0 < closedV l w h) : ∃ T, ClT l T w h := by
  rw [closed_rows hs hw hh] at hp
  have hc : 0 < roundN (closeR l w) (cN l) (cS l) h := by unfold capI at hp; omega
  unfold roundN at hc
  obtain ⟨q, hq, h1⟩ := tot_pos.1 hc
  obtain ⟨xs, h2, h3, h4⟩ := pt_walk h1
  have hwk : walkP (cN l) (cS l) (cN l q) (q :: xs) (cN l q) := ⟨rfl, h4⟩
  obtain ⟨g1, g2, g3⟩ := walk_get (d := []) hwk (by simp)
  have hlen : (q :: xs).length = h := by simp [h2]; omega
  have hmem : ∀ y ∈ q :: xs, y ∈ closeR l w := fun y hy => by
    rcases List.mem_cons.1 hy with rfl | hy
    · exact hq
    · exact h3 y hy
  generalize hys : q :: xs = ys at *
  have hrow : ∀ y, y < h → ys.getD y [] ∈ closeR l w := fun y hy => hmem _ (getD_mem (by omega))
  refine ⟨fun y x => (ys.getD y []).getD x 0, ⟨fun y x hy hx => ?_, fun y x hy hx => ?_, fun y x hy hx => ?_⟩⟩
  · obtain ⟨e1, e2⟩ := mem_rowsL.1 (List.mem_filter.1 (hrow y hy)).1
    exact e2.lt _ (getD_mem (by omega))
  · obtain ⟨e1, e2⟩ := mem_rowsL.1 (List.mem_filter.1 (hrow y hy)).1
    have hcl := (List.mem_filter.1 (hrow y hy)).2
    by_cases e : x + 1 < w
    · rw [Nat.mod_eq_of_lt e]
      exact e2.chain _ (by omega)
    · have e3 : x = w - 1 := by omega
      rw [show x + 1 = w by omega, Nat.mod_self, e3]
      unfold closes at hcl
      have := of_decide_eq_true hcl
      rw [this, last_get (n := w - 1) (by omega)]
  · have hy2 : (y + 1) % h < h := Nat.mod_lt _ hh
    refine (code_match hs (List.mem_filter.1 (hrow y hy)).1 (List.mem_filter.1 (hrow _ hy2)).1).1 ?_ x hx
    by_cases e : y + 1 < h
    · rw [Nat.mod_eq_of_lt e]
      exact g3 y (by omega)
    · have e1 : y = h - 1 := by omega
      rw [show y + 1 = h by omega, Nat.mod_self, e1]
      have : cS l (ys.getD (ys.length - 1) []) = cN l q := g2
      rw [hlen] at this
      exact this.trans g1.symm

end Go.Proofs.YtfmppkplmfbjpaaGreatDoor

/- Picked by pick.py. -/
namespace Go.Proofs.YtfmppkplmfbjpaaGreatDoor
open Go.Lf Go.RowKit Go.Wg

set_option maxRecDepth 100000 in
theorem r_cut {a : Option Addr} {n c x : Nat} {w : World} {K : Value → World → Prop} (hx : x ≤ c) (hk : K (.slice a x x) w) : semW Tryz.prog (s3S 34 (.slice a n c) none (some (.int .i64 (x : Nat))) (.int .i64 (x : Nat))) w K := by
  obtain ⟨i, z, i1, i2, i3, i4, i5⟩ := slt31.info
  refine semW_of_run (v := .slice a x x) (w' := w) ?_ hk
  have h0 : ¬ ((x : Int) < 0) := by omega
  have h1 : ¬ ((c : Int) < (x : Int)) := by omega
  cases a with
  | none => simp [s3S, Instr.sliceAt, run_underlying slt31.und, Instr.slice, Instr.sliceBounds, Instr.sliceBound, asIntOf, sizeOf, typeInfo, i1, h0, h1, hx, Nat.not_lt.2 hx]
  | some a =>
    have ha : a.add 0 = a := rfl
    simp [s3S, Instr.sliceAt, run_underlying slt31.und, Instr.slice, Instr.sliceBounds, Instr.sliceBound, asIntOf, sizeOf, typeInfo, i1, h0, h1, hx, ha]
set_option maxRecDepth 100000 in
theorem r_pushView {a : Option Addr} {cap : Nat} {w : World} {row : List Int} {x : Int} {K : Value → World → Prop} (h : RdInts w (.slice a row.length cap) row) (h0 : row = [] → a = none) (hl : row.length ≤ 1000)
    (hk : ∀ v' w', RdInts w' v' (row ++ [x]) → Kp w w' → K v' w') :
    bsW Tryz.prog 34 1 [(0, .int .i64 x)] w fun s w => semW Tryz.prog (apS [34, 34] 34 [.slice a row.length row.length, s]) w K := by
  by_cases he : row = []
  · have ha := h0 he
    subst ha
    subst he
    refine r_pushRec (x := x) (v := .slice none 0 0) slt31 iC_len rfl (bs31 _ _ _) (by intro u hu; simp [iC] at hu; rw [hu]; rfl) (by omega) (RecAt.nil (base := w.heap.size)) (by simp) (Nat.le_refl _) fun v' w' ho hc _ => ?_
    exact hk v' w' (Rd.ints (ho.rd iC_len) (by simp)) (Kp.of_chg (Kp.refl _) hc fun k e => by cases e)
  have hpos : 0 < row.length := Nat.pos_of_ne_zero fun h => he (List.length_eq_zero_iff.1 h)
  obtain ⟨i, z, i1, i2, i3, i4, i5⟩ := slt31.info
  obtain ⟨b, off, c', e, _⟩ := h.at (j := 0) hpos
  cases e
  rw [bs31]
  have hk1 : Kp w (w.alloc (.cells #[.int .i64 x] 3)) := below_alloc _
  have hnew := heap_alloc_new w (.cells #[.int .i64 x] 3)
  have hsz : (w.alloc (.cells #[.int .i64 x] 3)).heap.size = w.heap.size + 1 := by show (w.heap.push _).size = _; simp
  have h1 := h.below hk1
  generalize w.alloc (.cells #[.int .i64 x] 3) = w1 at *
  have hold : ∀ j v, (row.map (Value.int .i64))[j]? = some v → w1.cell? ((⟨b, off, none⟩ : Addr).add j) = some v := fun j v hv => by
    have hj : j < row.length := by have := (List.getElem?_eq_some_iff.1 hv).1; simpa using this
    obtain ⟨b', off', c'', e', hc⟩ := h1.at hj
    cases e'
    rw [r_addr, hc]
    rw [List.getElem?_map, List.getElem?_eq_getElem hj] at hv
    rw [getD_lt _ _ _ hj]
    simpa using hv
  have hnews : ∀ j v, [Value.int .i64 x][j]? = some v → w1.cell? ((⟨w.heap.size, 0, none⟩ : Addr).add j) = some v := fun j v hv => by
    rw [r_addr, cell_row hnew]
    cases j with
    | zero => simpa using hv
    | succ j => simp at hv
  have hb2 : (row.length + 1) * i.bytes ≤ 140737488355328 := by rw [i4]; omega
  have hrun := run_append_grow (P := Tryz.prog) (w := w1) 34 34 3 i z slt31.und i1 i2 ⟨b, off, none⟩ row.length row.length (row.map (Value.int .i64)) (by rw [i3]; simp) hold ⟨w.heap.size, 0, none⟩ 1 1 [Value.int .i64 x] (by rw [i3]; rfl) hnews (by omega) (by omega) (growslice_fits (by omega) hb2)
  refine semW_of_run (v := .slice (some ⟨w1.heap.size, 0, none⟩) (row.length + 1) (grownCap w1 (row.length + 1) row.length 3)) (w' := w1.drew.alloc (.cells ((row.map (Value.int .i64)).toArray ++ [Value.int .i64 x].toArray ++ Builtin.zeroCells z.cells (grownCap w1 (row.length + 1) row.length 3 - (row.length + 1))) 3)) (by simp only [apS, Sem.run_bind]; rw [hrun]; rfl) (hk _ _ ?_ ?_)
  · refine ⟨_, _, by rw [List.length_append]; rfl, ⟨by simp; omega, by rw [List.length_append]; exact grownCap_ge _ _ _ _⟩, fun _ => ⟨w1.heap.size, 0, rfl, fun j hj => ?_⟩⟩
    have hcell := cell_row (w := w1.drew.alloc (.cells ((row.map (Value.int .i64)).toArray ++ [Value.int .i64 x].toArray ++ Builtin.zeroCells z.cells (grownCap w1 (row.length + 1) row.length 3 - (row.length + 1))) 3)) (o := 0 + j) (heap_alloc_new w1.drew _)
    rw [List.length_append] at hj
    have hj' : j < row.length + 1 := by simpa using hj
    refine Eq.trans hcell ?_
    rw [Nat.zero_add, getD_lt _ _ _ (by simpa using hj')]
    rw [Array.getElem?_append_left (by simp; omega)]
    simp only [List.append_toArray, List.getElem?_toArray]
    by_cases hjr : j < row.length
    · rw [List.getElem?_append_left (by simpa using hjr), List.getElem?_map, List.getElem?_eq_getElem hjr, List.getElem_append_left hjr]; rfl
    · have : j = row.length := by omega
      subst this
      rw [List.getElem?_append_right (by simp), List.getElem_append_right (by omega)]
      simp
  · exact Kp.trans hk1 ((Below.refl _ _).drew.alloc (Nat.le_refl _) _)

end Go.Proofs.YtfmppkplmfbjpaaGreatDoor
