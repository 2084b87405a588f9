/- Texts of my own, merged by program: Kh Mt. -/
import Derived.Test.YtbekeccfjmoonaaDoorM21
import Derived.Test.YtbekeccfjmoonaaDoorM10
set_option linter.all false
/- The cells of a floor as places, sorted. -/
namespace Go.Proofs.YtbekeccfjmoonaaDoor
open Go.Lf Go.RowKit Go.Ht Go.Km

def unC (q : Nat) : C2 := (((q % 4 : Nat) : Int), ((q / 4 : Nat) : Int))
theorem unC_inj {a b : Nat} (h : unC a = unC b) : a = b := by
  unfold unC at h
  injection h with h1 h2
  omega
/-- The places of a floor. -/
def plL (l : List ByteArray) : List Nat := (List.range 16).filter (hq l)

theorem rowP_wide {l : List ByteArray} (y : Nat) : ∀ d, rowP l y (wd l + d) = rowP l y (wd l)
  | 0 => rfl
  | d + 1 => by
    rw [show wd l + (d + 1) = (wd l + d) + 1 by omega, rowP_succ, rowP_wide y d]
    have : hasB l (((wd l + d : Nat) : Nat) : Int) (y : Nat) = false := by
      cases h : hasB l (((wd l + d : Nat) : Nat) : Int) (y : Nat) with
      | false => rfl
      | true => have := (hasN_lt (l := l) (x := wd l + d) (y := y) h).1; omega
    rw [this]; simp
theorem rowP_none {l : List ByteArray} {y : Nat} (hy : l.length ≤ y) (k : Nat) : rowP l y k = [] := by
  refine List.eq_nil_iff_forall_not_mem.2 fun c hc => ?_
  obtain ⟨x, _, h, _⟩ := rowP_mem.1 hc
  have := (hasN_lt (l := l) (x := x) (y := y) h).2
  omega
theorem cellsP_more {l : List ByteArray} : ∀ d, cellsP l (l.length + d) = cellsP l l.length
  | 0 => rfl
  | d + 1 => by
    rw [show l.length + (d + 1) = (l.length + d) + 1 by omega]
    unfold cellsP
    rw [rowP_none (by omega), List.append_nil, cellsP_more d]
    cases l.length <;> rfl
theorem row4 (l : List ByteArray) (y : Nat) : rowP l y 4 = (([0, 1, 2, 3].map fun i => 4 * y + i).filter (hq l)).map unC := by
  rw [List.filter_map, List.map_map]
  show (([0, 1, 2, 3] : List Nat).filter fun x => hasB l (x : Nat) (y : Nat)).map (fun x => (((x : Nat) : Int), ((y : Nat) : Int))) = _
  have e1 : ([0, 1, 2, 3] : List Nat).filter (fun x => hasB l (x : Nat) (y : Nat)) = ([0, 1, 2, 3] : List Nat).filter (hq l ∘ fun i => 4 * y + i) := List.filter_congr fun i hi => by
    have : i < 4 := by simp at hi; omega
    show _ = hasN l ((4 * y + i) % 4) ((4 * y + i) / 4)
    rw [show (4 * y + i) % 4 = i by omega, show (4 * y + i) / 4 = y by omega]; rfl
  rw [e1]
  refine List.map_congr_left fun i hi => ?_
  have h4 := (List.mem_filter.1 hi).1
  have : i < 4 := by simp at h4; omega
  show _ = unC (4 * y + i)
  unfold unC
  rw [show (4 * y + i) % 4 = i by omega, show (4 * y + i) / 4 = y by omega]
theorem cells_pl {l : List ByteArray} (hR : RegOk l 4) : cellsB l = (plL l).map unC := by
  have hw : 1 ≤ wd l ∧ wd l ≤ 4 := hR.wid
  have hl := hR.len
  have hrow : ∀ y, rowP l y (l.getD 0 dB).size = rowP l y 4 := fun y => by
    have := rowP_wide (l := l) y (4 - wd l)
    rw [show wd l + (4 - wd l) = 4 by omega] at this
    exact this.symm
  have h4 : cellsB l = cellsP l 4 := by
    have := cellsP_more (l := l) (4 - l.length)
    rw [show l.length + (4 - l.length) = 4 by omega] at this
    exact this.symm
  rw [h4]
  simp only [cellsP, hrow, row4, List.nil_append]
  rw [← List.map_append, ← List.map_append, ← List.map_append, ← List.filter_append, ← List.filter_append, ← List.filter_append]
  rfl
theorem pl_mem {l : List ByteArray} (hR : RegOk l 4) {q : Nat} : q ∈ plL l ↔ hq l q = true := by
  unfold plL
  rw [List.mem_filter, List.mem_range]
  refine ⟨fun h => h.2, fun h => ⟨?_, h⟩⟩
  have := hq_lt h
  have hl := hR.len
  omega
theorem pl_sorted (l : List ByteArray) : (plL l).Pairwise (· < ·) := List.Pairwise.filter _ List.pairwise_lt_range
theorem pl_len (l : List ByteArray) : (plL l).length ≤ 16 := Nat.le_trans (List.length_filter_le _ _) (by simp)
/-- The index of a place. -/
theorem idx_map (q : Nat) : ∀ L : List Nat, (L.map unC).idxOf (unC q) = L.idxOf q
  | [] => rfl
  | a :: L => by
    rw [List.map_cons, List.idxOf_cons, List.idxOf_cons, idx_map q L]
    by_cases e : a = q
    · subst e; simp
    · have e2 : (unC a == unC q) = false := by
        cases h : unC a == unC q with
        | false => rfl
        | true => exact absurd (unC_inj (eq_of_beq h)) e
      have e3 : (a == q) = false := by simpa using e
      rw [e2, e3]
theorem idx_lt {L : List Nat} (hs : L.Pairwise (· < ·)) {a b : Nat} (ha : a ∈ L) (hb : b ∈ L) (h : a < b) : L.idxOf a < L.idxOf b := by
  have la := List.idxOf_lt_length_iff.2 ha
  have lb := List.idxOf_lt_length_iff.2 hb
  have ga := List.getElem_idxOf la
  have gb := List.getElem_idxOf lb
  refine Classical.byContradiction fun hn => ?_
  rcases Nat.lt_or_eq_of_le (Nat.le_of_not_lt hn) with h1 | h1
  · have := List.pairwise_iff_getElem.1 hs _ _ lb la h1
    omega
  · simp only [h1] at gb
    omega
theorem idx_at {L : List Nat} (hs : L.Pairwise (· < ·)) {i : Nat} (hi : i < L.length) : L.idxOf L[i] = i := by
  have hm := List.getElem_mem hi
  have l1 := List.idxOf_lt_length_iff.2 hm
  have g1 := List.getElem_idxOf l1
  rcases Nat.lt_trichotomy (L.idxOf L[i]) i with h | h | h
  · have := List.pairwise_iff_getElem.1 hs _ _ l1 hi h; omega
  · exact h
  · have := List.pairwise_iff_getElem.1 hs _ _ hi l1 h; omega
theorem idx_inj {L : List Nat} {a b : Nat} (ha : a ∈ L) (hb : b ∈ L) (h : L.idxOf a = L.idxOf b) : a = b := by
  have ga := List.getElem_idxOf (List.idxOf_lt_length_iff.2 ha)
  have gb := List.getElem_idxOf (List.idxOf_lt_length_iff.2 hb)
  rw [← ga]
  simp only [h]
  exact gb
/-- Steps of a domino's tile. -/
theorem step_pl {l : List ByteArray} (hR : RegOk l 4) {q : Nat} (k : Nat) : stepC (unC q) (domS k) ∈ cellsB l ↔ (k = 0 ∧ q % 4 ≠ 3 ∧ q + 1 ∈ plL l) ∨ (k ≠ 0 ∧ q + 4 ∈ plL l) := by
  rw [cellsB_mem]
  have h4 : ∀ x y : Nat, hasB l (x : Int) (y : Int) = true → x < 4 ∧ y < 4 := fun x y h => by
    have := hasN_lt (l := l) (x := x) (y := y) h
    have hw : wd l ≤ 4 := hR.wid.2
    have := hR.len
    omega
  by_cases hk : k = 0
  · have e : domS k = (1, 0) := by unfold domS; rw [if_pos hk]
    rw [e]
    have e2 : (stepC (unC q) (1, 0)).1 = ((q % 4 + 1 : Nat) : Int) := by show ((q % 4 : Nat) : Int) + 1 = _; omega
    have e3 : (stepC (unC q) (1, 0)).2 = ((q / 4 : Nat) : Int) := by show ((q / 4 : Nat) : Int) + 0 = _; omega
    rw [e2, e3, pl_mem hR, pl_mem hR]
    constructor
    · intro h
      have := h4 _ _ h
      refine .inl ⟨hk, by omega, ?_⟩
      unfold hq hasN
      rw [show (q + 1) % 4 = q % 4 + 1 by omega, show (q + 1) / 4 = q / 4 by omega]; exact h
    · rintro (⟨_, h3, h⟩ | ⟨h, _⟩)
      · unfold hq hasN at h
        rw [show (q + 1) % 4 = q % 4 + 1 by omega, show (q + 1) / 4 = q / 4 by omega] at h; exact h
      · exact absurd hk h
  · have e : domS k = (0, 1) := by unfold domS; rw [if_neg hk]
    rw [e]
    have e2 : (stepC (unC q) (0, 1)).1 = ((q % 4 : Nat) : Int) := by show ((q % 4 : Nat) : Int) + 0 = _; omega
    have e3 : (stepC (unC q) (0, 1)).2 = ((q / 4 + 1 : Nat) : Int) := by show ((q / 4 : Nat) : Int) + 1 = _; omega
    rw [e2, e3, pl_mem hR, pl_mem hR]
    have e5 : hq l (q + 4) = hasB l ((q % 4 : Nat) : Int) ((q / 4 + 1 : Nat) : Int) := by
      unfold hq hasN
      rw [show (q + 4) % 4 = q % 4 by omega, show (q + 4) / 4 = q / 4 + 1 by omega]
    rw [e5]
    exact ⟨fun h => .inr ⟨hk, h⟩, fun h => h.elim (fun h => absurd h.1 hk) fun h => h.2⟩
theorem step_un {q : Nat} (h : q % 4 ≠ 3) : stepC (unC q) (domS 0) = unC (q + 1) := by
  unfold unC stepC domS
  rw [if_pos rfl]
  simp only [Prod.mk.injEq]
  omega
theorem step_un1 {q k : Nat} (hk : k ≠ 0) : stepC (unC q) (domS k) = unC (q + 4) := by
  unfold unC stepC domS
  rw [if_neg hk]
  simp only [Prod.mk.injEq]
  omega

end Go.Proofs.YtbekeccfjmoonaaDoor

/- Matrices in memory: lists of integers, each in a block of its own, no two in one. -/
namespace Go.Proofs.YtbekeccfjmoonaaDoor
open Go.Lf Go.RowKit

def IMatV (base : Nat) (w : World) (v : Value) (vs : List Value) (R : List (List Int)) : Prop :=
  RecAt 31 1 vE base w v vs ∧ vs.length = R.length ∧ (∀ (i : Nat) (u : Value) (r : List Int), vs[i]? = some u → R[i]? = some r → IntsAt base w u r) ∧
    ∀ (i j : Nat) (u u' : Value) (k : Nat), vs[i]? = some u → vs[j]? = some u' → u.ownBlock = some k → u'.ownBlock = some k → i = j
def IMat (base : Nat) (w : World) (v : Value) (R : List (List Int)) : Prop := ∃ vs : List Value, IMatV base w v vs R
/-- All blocks of a matrix lie below top. -/
def TopV (top : Nat) (v : Value) (vs : List Value) : Prop := (∀ k, v.ownBlock = some k → k < top) ∧ ∀ (i : Nat) u, vs[i]? = some u → ∀ k, u.ownBlock = some k → k < top
theorem IMatV.top {base : Nat} {w : World} {v : Value} {vs : List Value} {R : List (List Int)} (h : IMatV base w v vs R) : TopV w.heap.size v vs :=
  let ⟨h1, h2, h3, _⟩ := h
  ⟨fun k hk => (h1.lt hk).2, fun i u hu k hk => by
    have hlt := (List.getElem?_eq_some_iff.1 hu).1
    exact ((h3 i u (R[i]'(by omega)) hu (List.getElem?_eq_getElem (by omega))).lt hk).2⟩
theorem IMatV.kp {base : Nat} {w w' : World} {v : Value} {vs : List Value} {R : List (List Int)} (h : IMatV base w v vs R) (hk : Kp w w') : IMatV base w' v vs R :=
  let ⟨h1, h2, h3, h4⟩ := h; ⟨h1.kp hk, h2, fun i u r hu hr => (h3 i u r hu hr).kp hk, h4⟩
theorem IMat.rows {base : Nat} {w : World} {v : Value} {R : List (List Int)} (h : IMat base w v R) : IRows base w v R :=
  let ⟨vs, h1, h2, h3, _⟩ := h; ⟨vs, h1, h2, h3⟩
theorem IMat.nil {base : Nat} {w : World} : IMat base w nilS [] := ⟨[], RecAt.nil, rfl, by simp, by simp⟩
theorem IMat.chg {S : Nat → Prop} {base : Nat} {w w' : World} {v : Value} {R : List (List Int)} (h : IMat base w v R) (hc : Chg S w w') (hs : ∀ k, base ≤ k → k < w.heap.size → ¬ S k) : IMat base w' v R :=
  let ⟨vs, h1, h2, h3, h4⟩ := h; ⟨vs, h1.chg hc fun k hk => hs k (h1.lt hk).1 (h1.lt hk).2, h2, fun i u r hu hr => (h3 i u r hu hr).chg hc fun k hk => hs k ((h3 i u r hu hr).lt hk).1 ((h3 i u r hu hr).lt hk).2, h4⟩
theorem IMat.kp {base : Nat} {w w' : World} {v : Value} {R : List (List Int)} (h : IMat base w v R) (hk : Kp w w') : IMat base w' v R :=
  let ⟨vs, h1, h2, h3, h4⟩ := h; ⟨vs, h1.kp hk, h2, fun i u r hu hr => (h3 i u r hu hr).kp hk, h4⟩
theorem IMat.down {base base' : Nat} {w : World} {v : Value} {R : List (List Int)} (h : IMat base w v R) (hb : base' ≤ base) : IMat base' w v R :=
  let ⟨vs, h1, h2, h3, h4⟩ := h; ⟨vs, h1.down hb, h2, fun i u r hu hr => (h3 i u r hu hr).down hb, h4⟩
theorem IMat.len {base : Nat} {w : World} {v : Value} {R : List (List Int)} (h : IMat base w v R) : ∃ a cap, v = .slice a R.length cap ∧ R.length ≤ cap := by
  obtain ⟨vs, h1, h2, _⟩ := h
  have := h1.len
  rwa [h2] at this

theorem own_at {α : Type} {e : TypeId} {m : Nat} {enc : α → List Value} {base : Nat} {w : World} {v : Value} {P : List α} (he : ∀ x, (enc x).length = m) (h : RecAt e m enc base w v P) {q : Nat} {p : α} (hq : P[q]? = some p) :
    ∃ g cap, v = .slice (some ⟨g, 0, none⟩) P.length cap ∧ base ≤ g ∧ ∀ j u, (enc p)[j]? = some u → w.cell? ⟨g, q * m + j, none⟩ = some u := by
  have hlt := (List.getElem?_eq_some_iff.1 hq).1
  obtain ⟨g, cap, _, e1, hb, _⟩ := h.blk (by omega)
  obtain ⟨b, off, _, e2, _, hc⟩ := (h.rd he).at hq
  rw [e1] at e2
  cases e2
  exact ⟨g, cap, e1, hb, fun j u hj => by have := hc j u hj; simpa using this⟩

/-- A row: where its slice lies, and its numbers. -/
theorem IMat.row {base : Nat} {w : World} {v : Value} {R : List (List Int)} (h : IMat base w v R) {i : Nat} (hi : i < R.length) :
    ∃ g cap u, v = .slice (some ⟨g, 0, none⟩) R.length cap ∧ base ≤ g ∧ w.cell? ⟨g, i, none⟩ = some u ∧ IntsAt base w u (R.getD i []) := by
  obtain ⟨vs, h1, h2, h3, _⟩ := h
  have hlt : i < vs.length := by omega
  obtain ⟨g, cap, e, hb, hc⟩ := own_at vE_len h1 (List.getElem?_eq_getElem hlt)
  have := hc 0 _ rfl
  refine ⟨g, cap, vs[i], by rw [← h2]; exact e, hb, by simpa using this, ?_⟩
  rw [getD_lt _ _ _ hi]
  exact h3 i _ _ (List.getElem?_eq_getElem hlt) (List.getElem?_eq_getElem hi)
theorem IMatV.ldK {base : Nat} {w : World} {v : Value} {vs : List Value} {R : List (List Int)} (h : IMatV base w v vs R) {i : Nat} (hi : i < R.length) :
    ∃ u, vs[i]? = some u ∧ IntsAt base w u (R.getD i []) ∧ ∀ K : Value → Prop, (iaS 1 v (.int .i64 i) fun p => ld1 w p K) = K u := by
  obtain ⟨h1, h2, h3, _⟩ := h
  have hlt : i < vs.length := by omega
  obtain ⟨g, cap, e, hb, hc⟩ := own_at vE_len h1 (List.getElem?_eq_getElem hlt)
  have hc := hc 0 _ rfl
  simp only [Nat.mul_one, Nat.add_zero] at hc
  have hii : (i : Int).toNat = i := by omega
  refine ⟨_, List.getElem?_eq_getElem hlt, ?_, fun K => ?_⟩
  · rw [getD_lt _ _ _ hi]
    exact h3 i _ _ (List.getElem?_eq_getElem hlt) (List.getElem?_eq_getElem hi)
  · rw [e, r_iaS _ _ _ _ _ _ _ (by omega) (by omega), hii, Nat.mul_one, Nat.zero_add, r_ld hc]
theorem IMat.ldK {base : Nat} {w : World} {v : Value} {R : List (List Int)} (h : IMat base w v R) {i : Nat} (hi : i < R.length) :
    ∃ u, IntsAt base w u (R.getD i []) ∧ ∀ K : Value → Prop, (iaS 1 v (.int .i64 i) fun p => ld1 w p K) = K u := by
  obtain ⟨g, cap, u, e, _, hc, hI⟩ := h.row hi
  refine ⟨u, hI, fun K => ?_⟩
  have hii : (i : Int).toNat = i := by omega
  rw [e, r_iaS _ _ _ _ _ _ _ (by omega) (by omega), hii, Nat.mul_one, Nat.zero_add, r_ld hc]
theorem ints_ldK {w : World} {u : Value} {l : List Int} (h : RdInts w u l) {j : Nat} (hj : j < l.length) (K : Value → Prop) : (iaS 1 u (.int .i64 j) fun p => ld1 w p K) = K (.int .i64 (l.getD j 0)) := by
  obtain ⟨b, off, cap, e, hc⟩ := h.at hj
  have hjj : (j : Int).toNat = j := by omega
  rw [e, r_iaS _ _ _ _ _ _ _ (by omega) (by omega), hjj, Nat.mul_one, r_ld hc]
theorem own_ldK {base : Nat} {w : World} {u : Value} {l : List Int} (h : IntsAt base w u l) {j : Nat} (hj : j < l.length) (K : Value → Prop) : (iaS 1 u (.int .i64 j) fun p => ld1 w p K) = K (.int .i64 (l.getD j 0)) := by
  obtain ⟨g, cap, e, _, hc, _⟩ := h.put hj 0
  have hjj : (j : Int).toNat = j := by omega
  rw [e, r_iaS _ _ _ _ _ _ _ (by omega) (by omega), hjj, Nat.mul_one, Nat.zero_add, r_ld hc]
/-- A store into a row. -/
theorem IMatV.put {base : Nat} {w : World} {v : Value} {vs : List Value} {R : List (List Int)} (h : IMatV base w v vs R) {i j : Nat} (hi : i < R.length) (hj : j < (R.getD i []).length) :
    ∃ g cap q c, v = .slice (some ⟨g, 0, none⟩) R.length cap ∧ w.cell? ⟨g, i, none⟩ = some (.slice (some ⟨q, 0, none⟩) (R.getD i []).length c) ∧ base ≤ g ∧ base ≤ q ∧ w.cell? ⟨q, j, none⟩ = some (.int .i64 (hat R i j)) ∧ w.frozen? ⟨q, j, none⟩ = false ∧ (∃ u, vs[i]? = some u ∧ u.ownBlock = some q) ∧
      ∀ x, IMatV base (w.setCell ⟨q, j, none⟩ (.int .i64 x)) v vs (put2 R i j x) := by
  obtain ⟨h1, h2, h3, h4⟩ := h
  have hlt : i < vs.length := by omega
  obtain ⟨g, cap, e, hb, hc⟩ := own_at vE_len h1 (List.getElem?_eq_getElem hlt)
  have hI := h3 i _ _ (List.getElem?_eq_getElem hlt) (List.getElem?_eq_getElem hi)
  rw [← getD_lt _ _ [] hi] at hI
  obtain ⟨q, c, eu, hbq, hcell, hfr, _⟩ := hI.put hj 0
  have hcell0 := hc 0 _ rfl
  simp only [Nat.mul_one, Nat.add_zero] at hcell0
  rw [eu] at hcell0
  refine ⟨g, cap, q, c, by rw [← h2]; exact e, hcell0, hb, hbq, hcell, hfr, ⟨_, List.getElem?_eq_getElem hlt, by rw [eu]; rfl⟩, fun x => ?_⟩
  have hgI : (vs[i]'hlt).ownBlock = some q := by rw [eu]; rfl
  have hch : Chg (fun k => k = q) w (w.setCell ⟨q, j, none⟩ (.int .i64 x)) := Chg.setCell _ _ rfl
  obtain ⟨q', c', eu', _, _, _, hset⟩ := hI.put hj x
  have : q' = q := by rw [eu] at eu'; injection eu' with e1; injection e1 with e1; injection e1 with e1; exact e1.symm
  subst this
  refine ⟨h1.chg hch fun k hk e => ?_, by rw [put2_length]; exact h2, fun a u r hu hr => ?_, h4⟩
  · subst e
    exact rec_ne hI h1 (by decide) k hgI hk
  · by_cases ea : a = i
    · subst ea
      rw [List.getElem?_eq_getElem hlt] at hu
      cases hu
      have : r = (R.getD a []).set j x := by
        unfold put2 at hr
        rw [List.getElem?_set_self hi] at hr
        injection hr with hr
        exact hr.symm
      rw [this]
      exact hset
    · have hr' : R[a]? = some r := by
        unfold put2 at hr
        rwa [List.getElem?_set_ne (Ne.symm ea)] at hr
      exact (h3 a u r hu hr').chg hch fun k hk e => ea (h4 a i u _ k hu (List.getElem?_eq_getElem hlt) hk (by rw [e]; exact hgI))

set_option maxRecDepth 100000 in
/-- A new row is put behind the others. -/
theorem r_pushMat {base base' : Nat} {w0 w : World} {v : Value} {R : List (List Int)} {a : Option Addr} {n c : Nat} {r : List Int} {K : Value → World → Prop} (h : IMat base w0 v R) (hk0 : Kp w0 w) (hr : IntsAt base' w (.slice a n c) r) (hb' : w0.heap.size ≤ base') (hn : R.length + 1 ≤ 1000000) (hb : base ≤ w0.heap.size)
    (hk : ∀ v' w', IMat base w' v' (R ++ [r]) → Chg (fun k => v.ownBlock = some k) w w' → (∃ a n c, v' = .slice a n c) → K v' w') :
    bsW Tryd.prog 50 1 [(0, .slice a n c)] w fun s w => semW Tryd.prog (apS [50, 50] 50 [v, s]) w K := by
  obtain ⟨vs, h1, h2, h3, h4⟩ := h
  have g1 := h1.kp hk0
  have hsz := hk0.size
  refine r_pushRec (x := .slice a n c) slt50 vE_len rfl (bs50 _ _ _ _) (by intro u hu; simp at hu; subst hu; rfl) (by omega) g1 (by omega) (by omega) fun v' w' p1 p2 p3 => ?_
  have key : ∀ b u r, IntsAt b w u r → IntsAt b w' u r := fun b u r hb => hb.chg p2 fun q hq => rec_ne hb g1 (by decide) q hq
  have split : ∀ (j : Nat) u, (vs ++ [Value.slice a n c])[j]? = some u → (j < vs.length ∧ vs[j]? = some u) ∨ (j = vs.length ∧ u = .slice a n c) := fun j u hu => by
    by_cases hj : j < vs.length
    · rw [List.getElem?_append_left hj] at hu
      exact .inl ⟨hj, hu⟩
    · rw [List.getElem?_append_right (by omega)] at hu
      match hjj : j - vs.length with
      | 0 => rw [hjj] at hu; cases hu; exact .inr ⟨by omega, rfl⟩
      | m + 1 => rw [hjj] at hu; simp at hu
  refine hk v' w' ⟨_, p1, by simp [h2], fun j u r' hu hr' => ?_, fun i j u u' k hu hu' hk1 hk2 => ?_⟩ p2 ?_
  · rcases split j u hu with ⟨hj, hu⟩ | ⟨hj, rfl⟩
    · rw [List.getElem?_append_left (by rw [← h2]; exact hj)] at hr'
      exact key _ u r' ((h3 j u r' hu hr').kp hk0)
    · rw [List.getElem?_append_right (by rw [← h2]; omega), ← h2, hj, Nat.sub_self] at hr'
      cases hr'
      exact (key _ _ _ hr).down (by omega)
  · have old : ∀ (i : Nat) u, i < vs.length → vs[i]? = some u → u.ownBlock = some k → k < w0.heap.size := fun i u hi hu hk1 => by
      have := (h3 i u (R[i]'(by omega)) hu (List.getElem?_eq_getElem (by omega))).lt hk1
      exact this.2
    have new : (Value.slice a n c).ownBlock = some k → w0.heap.size ≤ k := fun hk1 => by have := (hr.lt hk1).1; omega
    rcases split i u hu with ⟨hi, hu⟩ | ⟨hi, rfl⟩
    · rcases split j u' hu' with ⟨hj, hu'⟩ | ⟨hj, rfl⟩
      · exact h4 i j u u' k hu hu' hk1 hk2
      · have := old i u hi hu hk1; have := new hk2; omega
    · rcases split j u' hu' with ⟨hj, hu'⟩ | ⟨hj, rfl⟩
      · have := old j u' hj hu' hk2; have := new hk1; omega
      · omega
  · obtain ⟨a, c, e, _⟩ := p1.len
    exact ⟨_, _, _, e⟩

/-- Two rows change places. -/
theorem IMatV.swap {base : Nat} {w : World} {v : Value} {vs : List Value} {R : List (List Int)} (h : IMatV base w v vs R) {i j : Nat} (hi : i < R.length) (hj : j < R.length) (hij : i ≠ j) :
    ∃ g cap a n c a' n' c', v = .slice (some ⟨g, 0, none⟩) R.length cap ∧ base ≤ g ∧ w.cell? ⟨g, i, none⟩ = some (.slice a n c) ∧ w.cell? ⟨g, j, none⟩ = some (.slice a' n' c') ∧ (∀ o, w.frozen? ⟨g, o, none⟩ = false) ∧
      (∃ x, (w.setCell ⟨g, i, none⟩ (.slice a' n' c')).cell? ⟨g, j, none⟩ = some x) ∧ (∀ o, (w.setCell ⟨g, i, none⟩ (.slice a' n' c')).frozen? ⟨g, o, none⟩ = false) ∧
      ∃ vs', IMatV base ((w.setCell ⟨g, i, none⟩ (.slice a' n' c')).setCell ⟨g, j, none⟩ (.slice a n c)) v vs' ((R.set i (R.getD j [])).set j (R.getD i [])) ∧ ∀ (q : Nat) u, vs'[q]? = some u → ∃ p : Nat, vs[p]? = some u := by
  obtain ⟨h1, h2, h3, h4⟩ := h
  have li : i < vs.length := by omega
  have lj : j < vs.length := by omega
  have Ii := h3 i _ _ (List.getElem?_eq_getElem li) (List.getElem?_eq_getElem hi)
  have Ij := h3 j _ _ (List.getElem?_eq_getElem lj) (List.getElem?_eq_getElem hj)
  obtain ⟨a, c, ei, _⟩ := Ii.len
  obtain ⟨a', c', ej, _⟩ := Ij.len
  obtain ⟨g, cap, cur, e, hb, hg, hle, hm, hs, ht⟩ := h1.blk (by omega)
  obtain ⟨g1, cap1, ev1, _, hc1⟩ := own_at vE_len h1 (List.getElem?_eq_getElem li)
  obtain ⟨g2, cap2, ev2, _, hc2⟩ := own_at vE_len h1 (List.getElem?_eq_getElem lj)
  rw [e] at ev1 ev2
  cases ev1
  cases ev2
  have ci := hc1 0 _ rfl
  have cj := hc2 0 _ rfl
  simp only [Nat.mul_one, Nat.add_zero] at ci cj
  have s1 := RecAt.set (j := 0) (p' := vs[j]) (u := vs[j]) vE_len h1 (List.getElem?_eq_getElem li) (by omega) rfl
  obtain ⟨g3, cap3, ev3, _, _, _, r1⟩ := s1
  rw [e] at ev3
  cases ev3
  have s2 := RecAt.set (q := j) (j := 0) (p' := vs[i]) (u := vs[i]) vE_len r1 (List.getElem?_eq_getElem (by rw [List.length_set]; exact lj)) (by omega) rfl
  obtain ⟨g4, cap4, ev4, _, hx, _, r2⟩ := s2
  rw [e, List.length_set] at ev4
  cases ev4
  simp only [Nat.mul_one, Nat.add_zero] at r1 r2 hx
  have hc : Chg (fun k => k = g) w ((w.setCell ⟨g, i, none⟩ vs[j]).setCell ⟨g, j, none⟩ vs[i]) := (Chg.setCell (S := fun k => k = g) w vs[j] (p := ⟨g, i, none⟩) rfl).trans (Chg.setCell (S := fun k => k = g) _ vs[i] (p := ⟨g, j, none⟩) rfl)
  have hgo : v.ownBlock = some g := by rw [e]; rfl
  have hb1 := setCell_block (o := i) (v := vs[j]) hg rfl
  rw [ei] at ci
  rw [ej] at cj
  refine ⟨g, cap, a, _, c, a', _, c', by rw [← h2]; exact e, hb, ci, cj, fun o => frozen_row hg, by rw [← ej]; exact hx, fun o => by rw [← ej]; exact frozen_row hb1, ?_⟩
  rw [← ei, ← ej]
  have hat : ∀ q, q < vs.length → ((vs.set i vs[j]).set j vs[i])[q]? = some (if q = j then vs[i] else if q = i then vs[j] else vs.getD q undef) := fun q hq => by
    by_cases b : q = j
    · subst b; rw [if_pos rfl, List.getElem?_set_self (by rw [List.length_set]; exact hq)]
    · rw [if_neg b, List.getElem?_set_ne (Ne.symm b)]
      by_cases x : q = i
      · subst x; rw [if_pos rfl, List.getElem?_set_self hq]
      · rw [if_neg x, List.getElem?_set_ne (Ne.symm x), List.getElem?_eq_getElem hq, getD_lt _ _ _ hq]
  have rat : ∀ q, q < R.length → ((R.set i (R.getD j [])).set j (R.getD i []))[q]? = some (if q = j then R.getD i [] else if q = i then R.getD j [] else R.getD q []) := fun q hq => by
    by_cases b : q = j
    · subst b; rw [if_pos rfl, List.getElem?_set_self (by rw [List.length_set]; exact hq)]
    · rw [if_neg b, List.getElem?_set_ne (Ne.symm b)]
      by_cases x : q = i
      · subst x; rw [if_pos rfl, List.getElem?_set_self hq]
      · rw [if_neg x, List.getElem?_set_ne (Ne.symm x), List.getElem?_eq_getElem hq, getD_lt _ _ _ hq]
  let σ : Nat → Nat := fun q => if q = j then i else if q = i then j else q
  have vat : ∀ q u, ((vs.set i vs[j]).set j vs[i])[q]? = some u → q < vs.length ∧ vs[σ q]? = some u ∧ σ q < vs.length := fun q u hu => by
    have hq : q < vs.length := by
      have := (List.getElem?_eq_some_iff.1 hu).1
      simpa using this
    rw [hat q hq] at hu
    injection hu with hu
    refine ⟨hq, ?_, ?_⟩
    · simp only [σ]
      by_cases b : q = j
      · rw [if_pos b] at hu ⊢; rw [← hu]; exact List.getElem?_eq_getElem li
      · rw [if_neg b] at hu ⊢
        by_cases x : q = i
        · rw [if_pos x] at hu ⊢; rw [← hu]; exact List.getElem?_eq_getElem lj
        · rw [if_neg x] at hu ⊢; rw [← hu, getD_lt _ _ _ hq]; exact List.getElem?_eq_getElem hq
    · simp only [σ]; split <;> (try split) <;> omega
  refine ⟨_, ⟨r2, by simp [h2], fun q u r hu hr => ?_, fun p q u u' k hu hu' hk hk' => ?_⟩, fun q u hu => ⟨_, (vat q u hu).2.1⟩⟩
  · obtain ⟨hq, hv, hl⟩ := vat q u hu
    have hr' : R[σ q]? = some r := by
      rw [rat q (by omega)] at hr
      injection hr with hr
      rw [List.getElem?_eq_getElem (by omega), ← getD_lt _ _ [] (by omega), ← hr]
      simp only [σ]
      by_cases b : q = j
      · rw [if_pos b, if_pos b]
      · rw [if_neg b, if_neg b]
        by_cases x : q = i
        · rw [if_pos x, if_pos x]
        · rw [if_neg x, if_neg x]
    have hI := h3 _ u r hv hr'
    exact hI.chg hc fun k hk e => rec_ne hI h1 (by decide) k hk (by rw [e]; exact hgo)
  · obtain ⟨hp, hv, _⟩ := vat p u hu
    obtain ⟨hq, hv', _⟩ := vat q u' hu'
    have := h4 _ _ u u' k hv hv' hk hk'
    simp only [σ] at this
    by_cases a1 : p = j
    · rw [if_pos a1] at this
      by_cases a2 : q = j
      · omega
      · rw [if_neg a2] at this
        by_cases a3 : q = i
        · rw [if_pos a3] at this; omega
        · rw [if_neg a3] at this; omega
    · rw [if_neg a1] at this
      by_cases a4 : p = i
      · rw [if_pos a4] at this
        by_cases a2 : q = j
        · rw [if_pos a2] at this; omega
        · rw [if_neg a2] at this
          by_cases a3 : q = i
          · omega
          · rw [if_neg a3] at this; omega
      · rw [if_neg a4] at this
        by_cases a2 : q = j
        · rw [if_pos a2] at this; omega
        · rw [if_neg a2] at this
          by_cases a3 : q = i
          · rw [if_pos a3] at this; omega
          · rw [if_neg a3] at this; exact this

end Go.Proofs.YtbekeccfjmoonaaDoor
