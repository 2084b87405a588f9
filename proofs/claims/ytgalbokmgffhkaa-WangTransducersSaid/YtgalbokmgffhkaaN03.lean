/- Texts of my own, merged by program: Base Heap Own. -/
import Derived.Test.YtgalbokmgffhkaaRows
import Derived.WalkKit
import Derived.WalkSpells
import Derived.WalkLawsBesides
import Derived.Deep.QuietTactic
import Derived.BigQuiet
import Derived.Deep.DeepFit
import Derived.Test.YtgalbokmgffhkaaN02
import Derived.KernelRfl
set_option linter.all false
/- Words for what memory holds: lists of integers, lists of such lists, and that they stay through new blocks. -/
namespace Go.Proofs.Ytgalbokmgffhkaa
open Go.RowKit Go.Lf

theorem hid {p : Prop} (h : p) : Hid p := h
theorem ret_int {k : IntKind} {a b : Int} (h : a = b) : Ending.returned (.int k a) = .returned (.int k b) := by rw [h]
theorem ret_bool {a b : Bool} (h : a = b) : Ending.returned (.bool a) = .returned (.bool b) := by rw [h]

theorem bcell {W w1 : World} (hb : Below W.heap.size W w1) : (∀ b o, b < W.heap.size → w1.cell? ⟨b, o, none⟩ = W.cell? ⟨b, o, none⟩) ∧ (∀ b o, b < W.heap.size → w1.frozen? ⟨b, o, none⟩ = W.frozen? ⟨b, o, none⟩) :=
  ⟨fun b o h => hb.cell (p := ⟨b, o, none⟩) h, fun b o h => hb.frozen (p := ⟨b, o, none⟩) h⟩

/-- The slice v reads as the integers l. -/
def RdInts (w : World) (v : Value) (l : List Int) : Prop :=
  ∃ a cap, v = .slice a l.length cap ∧ (l.length ≤ 17592186044416 ∧ l.length ≤ cap) ∧
    (0 < l.length → ∃ b off, a = some ⟨b, off, none⟩ ∧ ∀ i, i < l.length → w.cell? ⟨b, off + i, none⟩ = some (.int .i64 (l.getD i 0)))

/-- The slice v reads as the lists h. -/
def RdRows (w : World) (v : Value) (h : List (List Int)) : Prop :=
  ∃ a cap, ∃ vs : Nat → Value, v = .slice a h.length cap ∧ h.length ≤ 17592186044416 ∧
    (0 < h.length → ∃ b off, a = some ⟨b, off, none⟩ ∧ ∀ i, i < h.length → w.cell? ⟨b, off + i, none⟩ = some (vs i)) ∧
    ∀ i, i < h.length → RdInts w (vs i) (h.getD i [])

theorem RdInts.cells {w w' : World} {v : Value} {l : List Int} (h : RdInts w v l) (hc : ∀ a x, w.cell? a = some x → w'.cell? a = some x) : RdInts w' v l := by
  obtain ⟨a, cap, rfl, hl, hh⟩ := h
  refine ⟨a, cap, rfl, hl, fun h0 => ?_⟩
  obtain ⟨b, off, rfl, hcell⟩ := hh h0
  exact ⟨b, off, rfl, fun i hi => hc _ _ (hcell i hi)⟩

theorem RdRows.cells {w w' : World} {v : Value} {h : List (List Int)} (hr : RdRows w v h) (hc : ∀ a x, w.cell? a = some x → w'.cell? a = some x) : RdRows w' v h := by
  obtain ⟨a, cap, vs, rfl, hl, hh, hrows⟩ := hr
  refine ⟨a, cap, vs, rfl, hl, fun h0 => ?_, fun i hi => (hrows i hi).cells hc⟩
  obtain ⟨b, off, rfl, hcell⟩ := hh h0
  exact ⟨b, off, rfl, fun i hi => hc _ _ (hcell i hi)⟩

theorem RdInts.below {w w' : World} {v : Value} {l : List Int} (h : RdInts w v l) (hb : Below w.heap.size w w') : RdInts w' v l :=
  h.cells fun _ _ hx => cell_later hb hx

theorem RdRows.below {w w' : World} {v : Value} {h : List (List Int)} (hr : RdRows w v h) (hb : Below w.heap.size w w') : RdRows w' v h :=
  hr.cells fun _ _ hx => cell_later hb hx

theorem take_succ' {α : Type} (l : List α) (j : Nat) (h : j < l.length) : l.take (j + 1) = l.take j ++ [l[j]] := by
  rw [List.take_succ_eq_append_getElem h]

theorem getD_lt {α : Type} (l : List α) (j : Nat) (d : α) (h : j < l.length) : l.getD j d = l[j] := by
  simp [List.getD_eq_getElem?_getD, h]

/-- w' keeps all that is there in w. -/
abbrev Kp (w w' : World) : Prop := Below w.heap.size w w'
theorem Kp.refl (w : World) : Kp w w := Below.refl _ _
theorem Kp.trans {a b c : World} (h : Kp a b) (k : Kp b c) : Kp a c := Below.trans h (Below.mono k h.size)

theorem RdInts.at {w : World} {v : Value} {l : List Int} (h : RdInts w v l) {j : Nat} (hj : j < l.length) :
    ∃ b off cap, v = .slice (some ⟨b, off, none⟩) l.length cap ∧ w.cell? ⟨b, off + j, none⟩ = some (.int .i64 (l.getD j 0)) := by
  obtain ⟨a, cap, rfl, _, hc⟩ := h
  obtain ⟨b, off, rfl, hcl⟩ := hc (by omega)
  exact ⟨b, off, cap, rfl, hcl j hj⟩
theorem RdInts.len {w : World} {v : Value} {l : List Int} (h : RdInts w v l) : ∃ a cap, v = .slice a l.length cap ∧ l.length ≤ 17592186044416 ∧ l.length ≤ cap := by
  obtain ⟨a, cap, rfl, hl, _⟩ := h
  exact ⟨a, cap, rfl, hl⟩
theorem RdRows.row {w : World} {v : Value} {h : List (List Int)} (hr : RdRows w v h) {i : Nat} (hi : i < h.length) :
    ∃ b off cap rv, v = .slice (some ⟨b, off, none⟩) h.length cap ∧ w.cell? ⟨b, off + i, none⟩ = some rv ∧ RdInts w rv (h.getD i []) := by
  obtain ⟨a, cap, vs, rfl, _, hc, hrows⟩ := hr
  obtain ⟨b, off, rfl, hcl⟩ := hc (by omega)
  exact ⟨b, off, cap, vs i, rfl, hcl i hi, hrows i hi⟩
theorem RdRows.len {w : World} {v : Value} {h : List (List Int)} (hr : RdRows w v h) : ∃ a cap, v = .slice a h.length cap ∧ h.length ≤ 17592186044416 := by
  obtain ⟨a, cap, vs, rfl, hl, _⟩ := hr
  exact ⟨a, cap, rfl, hl⟩

theorem mixes : Try.prog.follows .mixedOrders = true := by kernel_rfl

end Go.Proofs.Ytgalbokmgffhkaa

/- Heaps of cubes as lists of lists: when one is right. Plain; no program. -/
namespace Go.Hp

def validB (A B C : Int) : Bool := decide (1 ≤ A ∧ A ≤ 4 ∧ 1 ≤ B ∧ B ≤ 4 ∧ 1 ≤ C ∧ C ≤ 4)

/-- The number at row i, column j. -/
def hat (h : List (List Int)) (i j : Nat) : Int := (h.getD i []).getD j 0

/-- The greatest number that may stand at a place. -/
def mostM (C : Int) (h : List (List Int)) (i j : Nat) : Int :=
  let m := if 0 < j then min C (hat h i (j - 1)) else C
  if 0 < i then min m (hat h (i - 1) j) else m

def okAt (C : Int) (h : List (List Int)) (i j : Nat) : Bool := decide (0 ≤ hat h i j ∧ hat h i j ≤ mostM C h i j)
def rowOk (B C : Int) (h : List (List Int)) (i : Nat) : Bool := decide (((h.getD i []).length : Int) = B) && (List.range (h.getD i []).length).all (okAt C h i)
def heapOk (A B C : Int) (h : List (List Int)) : Bool := decide ((h.length : Int) = A) && (List.range h.length).all (rowOk B C h)

theorem heapOk_len {A B C : Int} {h : List (List Int)} (e : ¬ (h.length : Int) = A) : heapOk A B C h = false := by simp [heapOk, e]
theorem heapOk_row {A B C : Int} {h : List (List Int)} {i : Nat} (hi : i < h.length) (e : rowOk B C h i = false) : heapOk A B C h = false := by
  have : (List.range h.length).all (rowOk B C h) = false := by
    rw [List.all_eq_false]; exact ⟨i, by simpa using hi, by simp [e]⟩
  simp [heapOk, this]
theorem heapOk_true {A B C : Int} {h : List (List Int)} (e : (h.length : Int) = A) (hr : ∀ i, i < h.length → rowOk B C h i = true) : heapOk A B C h = true := by
  have : (List.range h.length).all (rowOk B C h) = true := by rw [List.all_eq_true]; intro i hi; exact hr i (by simpa using hi)
  simp [heapOk, e, this]
theorem rowOk_len0 {B C : Int} {h : List (List Int)} {i : Nat} (e : ¬ ((h.getD i []).length : Int) = B) : rowOk B C h i = false := by simp only [rowOk, e, decide_false, Bool.false_and]
theorem rowOk_at {B C : Int} {h : List (List Int)} {i j : Nat} (hj : j < (h.getD i []).length) (e : okAt C h i j = false) : rowOk B C h i = false := by
  have : (List.range (h.getD i []).length).all (okAt C h i) = false := by
    rw [List.all_eq_false]; exact ⟨j, by simpa using hj, by simp [e]⟩
  simp only [rowOk, this, Bool.and_false]
theorem rowOk_true {B C : Int} {h : List (List Int)} {i : Nat} (e : ((h.getD i []).length : Int) = B) (hr : ∀ j, j < (h.getD i []).length → okAt C h i j = true) : rowOk B C h i = true := by
  have : (List.range (h.getD i []).length).all (okAt C h i) = true := by rw [List.all_eq_true]; intro j hj; exact hr j (by simpa using hj)
  simp only [rowOk, e, this, decide_true, Bool.and_true]
theorem rowOk_len {B C : Int} {h : List (List Int)} {i : Nat} (e : rowOk B C h i = true) : ((h.getD i []).length : Int) = B := by
  simp only [rowOk, Bool.and_eq_true, decide_eq_true_eq] at e; exact e.1

/-- What a heap is. -/
structure IsHeap (A B C : Int) (h : List (List Int)) : Prop where
  len : (h.length : Int) = A
  row : ∀ i, i < h.length → ((h.getD i []).length : Int) = B
  pos : ∀ i j : Nat, i < h.length → (j : Int) < B → 0 ≤ hat h i j
  top : ∀ i j : Nat, i < h.length → (j : Int) < B → hat h i j ≤ C
  left : ∀ i j : Nat, i < h.length → (j : Int) + 1 < B → hat h i (j + 1) ≤ hat h i j
  up : ∀ i j : Nat, i + 1 < h.length → (j : Int) < B → hat h (i + 1) j ≤ hat h i j

theorem okAt_iff {C : Int} {h : List (List Int)} {i j : Nat} : okAt C h i j = true ↔ 0 ≤ hat h i j ∧ hat h i j ≤ C ∧ (0 < j → hat h i j ≤ hat h i (j - 1)) ∧ (0 < i → hat h i j ≤ hat h (i - 1) j) := by
  unfold okAt
  rw [decide_eq_true_eq]
  unfold mostM
  dsimp only
  constructor
  · rintro ⟨h1, h2⟩
    refine ⟨h1, ?_, fun hj => ?_, fun hi => ?_⟩ <;> (split at h2 <;> first | omega | (split at h2 <;> omega))
  · rintro ⟨h1, h2, h3, h4⟩
    refine ⟨h1, ?_⟩
    by_cases hj : 0 < j <;> by_cases hi : 0 < i
    · have := h3 hj; have := h4 hi; simp only [hi, hj, if_true]; omega
    · have := h3 hj; simp only [hi, hj, if_true, if_false]; omega
    · have := h4 hi; simp only [hi, hj, if_true, if_false]; omega
    · simp only [hi, hj, if_false]; omega

theorem heapOk_iff {A B C : Int} {h : List (List Int)} : heapOk A B C h = true ↔ IsHeap A B C h := by
  constructor
  · intro e
    simp only [heapOk, Bool.and_eq_true, decide_eq_true_eq, List.all_eq_true, List.mem_range] at e
    obtain ⟨e1, e2⟩ := e
    have hat' : ∀ i j : Nat, i < h.length → (j : Int) < B → okAt C h i j = true := by
      intro i j hi hj
      have := e2 i hi
      simp only [rowOk, Bool.and_eq_true, decide_eq_true_eq, List.all_eq_true, List.mem_range] at this
      exact this.2 j (by omega)
    refine ⟨e1, fun i hi => rowOk_len (e2 i hi), fun i j hi hj => ?_, fun i j hi hj => ?_, fun i j hi hj => ?_, fun i j hi hj => ?_⟩
    · exact (okAt_iff.1 (hat' i j hi hj)).1
    · exact (okAt_iff.1 (hat' i j hi hj)).2.1
    · have := (okAt_iff.1 (hat' i (j + 1) hi (by omega))).2.2.1 (by omega); simpa using this
    · have := (okAt_iff.1 (hat' (i + 1) j hi hj)).2.2.2 (by omega); simpa using this
  · intro e
    refine heapOk_true e.len fun i hi => rowOk_true (e.row i hi) fun j hj => okAt_iff.2 ?_
    have hjB : (j : Int) < B := by have := e.row i hi; omega
    refine ⟨e.pos i j hi hjB, e.top i j hi hjB, fun h0 => ?_, fun h0 => ?_⟩
    · have := e.left i (j - 1) hi (by omega); rwa [show j - 1 + 1 = j by omega] at this
    · have := e.up (i - 1) j (by omega) hjB; rwa [show i - 1 + 1 = i by omega] at this

end Go.Hp

namespace Go.Hp

/-- h with x at row i, column j. -/
def put2 (h : List (List Int)) (i j : Nat) (x : Int) : List (List Int) := h.set i ((h.getD i []).set j x)

theorem put2_length (h : List (List Int)) (i j : Nat) (x : Int) : (put2 h i j x).length = h.length := by simp [put2]
theorem put2_row (h : List (List Int)) (i j k : Nat) (x : Int) (hi : i < h.length) : (put2 h i j x).getD k [] = if k = i then (h.getD i []).set j x else h.getD k [] := by
  by_cases hk : k = i
  · subst hk; simp [put2, hi]
  · simp [put2, hk, List.getElem?_set_ne (Ne.symm hk)]
theorem put2_len (h : List (List Int)) (i j k : Nat) (x : Int) (hi : i < h.length) : ((put2 h i j x).getD k []).length = (h.getD k []).length := by
  rw [put2_row h i j k x hi]; split
  · subst_vars; simp
  · rfl
theorem put2_hat (h : List (List Int)) (i j k l : Nat) (x : Int) (hi : i < h.length) (hj : j < (h.getD i []).length) : hat (put2 h i j x) k l = if k = i ∧ l = j then x else hat h k l := by
  unfold hat
  rw [put2_row h i j k x hi]
  by_cases hk : k = i
  · subst hk
    rw [if_pos rfl]
    by_cases hl : l = j
    · subst hl
      rw [if_pos ⟨rfl, rfl⟩, List.getD_eq_getElem?_getD, List.getElem?_set_self hj]; rfl
    · rw [if_neg (fun e => hl e.2), List.getD_eq_getElem?_getD, List.getElem?_set_ne (Ne.symm hl), ← List.getD_eq_getElem?_getD]
  · rw [if_neg hk, if_neg (fun e => hk e.1)]

/-- The last place below p whose number may grow. -/
def findP (B : Nat) (C : Int) (h : List (List Int)) : Nat → Option Nat
  | 0 => none
  | p + 1 => if hat h (p / B) (p % B) < mostM C h (p / B) (p % B) then some p else findP B C h p

/-- Zeros from place p on, m of them. -/
def clr (B : Nat) (h : List (List Int)) (p : Nat) : Nat → List (List Int)
  | 0 => h
  | m + 1 => put2 (clr B h p m) ((p + m) / B) ((p + m) % B) 0

/-- What Next does. -/
def nextM (A B : Nat) (C : Int) (h : List (List Int)) : Option (List (List Int)) :=
  match findP B C h (A * B) with
  | none => none
  | some p => some (clr B (put2 h (p / B) (p % B) (hat h (p / B) (p % B) + 1)) (p + 1) (A * B - (p + 1)))

/-- h has A rows of B numbers. -/
def Sized (A B : Nat) (h : List (List Int)) : Prop := h.length = A ∧ ∀ i, i < A → (h.getD i []).length = B

theorem put2_sized {A B : Nat} {h : List (List Int)} (hs : Sized A B h) {i j : Nat} (hi : i < A) (x : Int) : Sized A B (put2 h i j x) :=
  ⟨by rw [put2_length]; exact hs.1, fun k hk => by rw [put2_len _ _ _ _ _ (by rw [hs.1]; exact hi)]; exact hs.2 k hk⟩
theorem clr_sized {A B : Nat} {h : List (List Int)} (hs : Sized A B h) (hB : 0 < B) (p : Nat) : ∀ m, p + m ≤ A * B → Sized A B (clr B h p m)
  | 0, _ => hs
  | m + 1, hm => put2_sized (clr_sized hs hB p m (by omega)) ((Nat.div_lt_iff_lt_mul hB).2 (by omega)) 0

end Go.Hp

namespace Go.Hp

def NonNeg (A B : Nat) (h : List (List Int)) : Prop := ∀ i j, i < A → j < B → 0 ≤ hat h i j

theorem put2_nonneg {A B : Nat} {h : List (List Int)} (hs : Sized A B h) (hn : NonNeg A B h) {i j : Nat} (hi : i < A) (hj : j < B) {x : Int} (hx : 0 ≤ x) : NonNeg A B (put2 h i j x) := fun k l hk hl => by
  rw [put2_hat h i j k l x (by rw [hs.1]; exact hi) (by rw [hs.2 i hi]; exact hj)]
  split
  · exact hx
  · exact hn k l hk hl
theorem clr_nonneg {A B : Nat} {h : List (List Int)} (hs : Sized A B h) (hn : NonNeg A B h) (hB : 0 < B) (p : Nat) : ∀ m, p + m ≤ A * B → NonNeg A B (clr B h p m)
  | 0, _ => hn
  | m + 1, hm => put2_nonneg (clr_sized hs hB p m (by omega)) (clr_nonneg hs hn hB p m (by omega)) ((Nat.div_lt_iff_lt_mul hB).2 (by omega)) (Nat.mod_lt _ hB) (Int.le_refl 0)

theorem findP_lt {B : Nat} {C : Int} {h : List (List Int)} : ∀ {n p : Nat}, findP B C h n = some p → p < n
  | n + 1, p, e => by
    unfold findP at e
    split at e
    · cases e; omega
    · have := findP_lt e; omega

theorem nextM_keeps {A B : Nat} {C : Int} {h h' : List (List Int)} (hs : Sized A B h) (hn : NonNeg A B h) (hB : 0 < B) (e : nextM A B C h = some h') : Sized A B h' ∧ NonNeg A B h' := by
  unfold nextM at e
  cases hf : findP B C h (A * B) with
  | none => simp [hf] at e
  | some p =>
    simp only [hf, Option.some.injEq] at e
    subst e
    have hp := findP_lt hf
    have hi : p / B < A := (Nat.div_lt_iff_lt_mul hB).2 hp
    have hj := Nat.mod_lt p hB
    have h1 := put2_sized hs hi (j := p % B) (hat h (p / B) (p % B) + 1)
    have h2 := put2_nonneg hs hn hi hj (x := hat h (p / B) (p % B) + 1) (by have := hn _ _ hi hj; omega)
    exact ⟨clr_sized h1 hB _ _ (by omega), clr_nonneg h1 h2 hB _ _ (by omega)⟩

def zeros (A B : Nat) : List (List Int) := List.replicate A (List.replicate B 0)
theorem zeros_sized (A B : Nat) : Sized A B (zeros A B) := ⟨by simp [zeros], fun i hi => by simp [zeros, hi]⟩
theorem zeros_hat (A B i j : Nat) : hat (zeros A B) i j = 0 := by
  unfold hat zeros
  by_cases hi : i < A
  · by_cases hj : j < B <;> simp [hi, hj]
  · simp [hi]
theorem zeros_nonneg (A B : Nat) : NonNeg A B (zeros A B) := fun i j _ _ => by rw [zeros_hat]; exact Int.le_refl 0

/-- The heap that n times Next makes of the empty one. -/
def iterN (A B : Nat) (C : Int) : Nat → Option (List (List Int))
  | 0 => some (zeros A B)
  | n + 1 => (iterN A B C n).bind (nextM A B C)

theorem iterN_keeps {A B : Nat} {C : Int} (hB : 0 < B) : ∀ (n : Nat) (h : List (List Int)), iterN A B C n = some h → Sized A B h ∧ NonNeg A B h
  | 0, h, e => by cases e; exact ⟨zeros_sized A B, zeros_nonneg A B⟩
  | n + 1, h, e => by
    simp only [iterN] at e
    cases h1 : iterN A B C n with
    | none => simp [h1] at e
    | some h0 =>
      simp [h1] at e
      obtain ⟨a, b⟩ := iterN_keeps hB n h0 h1
      exact nextM_keeps a b hB e

theorem iterN_none {A B : Nat} {C : Int} {n : Nat} (h : iterN A B C n = none) : ∀ m, iterN A B C (n + m) = none
  | 0 => h
  | m + 1 => by rw [← Nat.add_assoc, iterN, iterN_none h m]; rfl

end Go.Hp

/- Memory of one's own: slices that grow, rows of integers that are written. -/
namespace Go.Proofs.Ytgalbokmgffhkaa
open Go.Lf Go.RowKit Go.Hp

/-- w' is w but for new blocks and for blocks of S. -/
structure Chg (S : Nat → Prop) (w w' : World) : Prop where
  os : w'.os = w.os
  tape : w'.tape = w.tape
  output : w'.output = w.output
  size : w.heap.size ≤ w'.heap.size
  block : ∀ k, k < w.heap.size → ¬ S k → w'.heap[k]? = w.heap[k]?

theorem Chg.refl (S : Nat → Prop) (w : World) : Chg S w w := ⟨rfl, rfl, rfl, Nat.le_refl _, fun _ _ _ => rfl⟩
theorem Chg.trans {S : Nat → Prop} {a b c : World} (h : Chg S a b) (k : Chg S b c) : Chg S a c :=
  ⟨k.os.trans h.os, k.tape.trans h.tape, k.output.trans h.output, Nat.le_trans h.size k.size, fun i hi hs => (k.block i (Nat.lt_of_lt_of_le hi h.size) hs).trans (h.block i hi hs)⟩
theorem Chg.mono {S S' : Nat → Prop} {a b : World} (h : Chg S a b) (hs : ∀ k, k < a.heap.size → S k → S' k) : Chg S' a b :=
  ⟨h.os, h.tape, h.output, h.size, fun i hi hn => h.block i hi fun hS => hn (hs i hi hS)⟩
theorem Chg.of_kp {S : Nat → Prop} {a b : World} (h : Kp a b) : Chg S a b := ⟨h.os, h.tape, h.output, h.size, fun i hi _ => h.block i hi⟩
theorem Chg.below {S : Nat → Prop} {B : Nat} {a b : World} (h : Chg S a b) (hB : B ≤ a.heap.size) (hs : ∀ k, S k → B ≤ k) : Below B a b :=
  ⟨h.os, h.tape, h.output, h.size, fun i hi => h.block i (by omega) fun hS => by have := hs i hS; omega⟩
theorem Chg.of_below {S : Nat → Prop} {B : Nat} {a b : World} (h : Below B a b) (hs : ∀ k, k < a.heap.size → B ≤ k → S k) : Chg S a b :=
  ⟨h.os, h.tape, h.output, h.size, fun i hi hn => h.block i (Nat.lt_of_not_le fun hle => hn (hs i hi hle))⟩
theorem Chg.of_grown {S : Nat → Prop} {a b : World} {row : Option Nat} (h : a.grownBy b row) (hs : ∀ k, row = some k → S k) : Chg S a b :=
  ⟨h.os, h.tape, h.output, h.size, fun i hi hn => h.block i hi fun e => hn (hs i e.symm)⟩
theorem Chg.cell {S : Nat → Prop} {a b : World} (h : Chg S a b) {p : Addr} {x : Value} (hc : a.cell? p = some x) (hn : ¬ S p.block) : b.cell? p = some x :=
  (World.cell?_of_block (h.block p.block (World.block_lt_of_cell? a p hc) hn)).trans hc
theorem Chg.at {S : Nat → Prop} {a b : World} (h : Chg S a b) {k : Nat} {o : Obj} (hk : a.heap[k]? = some o) (hn : ¬ S k) : b.heap[k]? = some o := (h.block k (block_lt hk) hn).trans hk
theorem Chg.setCell {S : Nat → Prop} (w : World) {p : Addr} (v : Value) (h : S p.block) : Chg S w (w.setCell p v) :=
  ⟨rfl, rfl, rfl, by simp [World.setCell], fun i _ hn => Below.heap_setCell _ _ _ _ (fun e => hn (by rw [e]; exact h))⟩
theorem Kp.of_chg {S : Nat → Prop} {a b c : World} (h : Kp a b) (k : Chg S b c) (hs : ∀ i, S i → a.heap.size ≤ i) : Kp a c :=
  Below.trans h (k.below h.size hs)

/-- A type of slices: what the program's table says of it. -/
structure SlT (t e : TypeId) (size bytes : Nat) : Prop where
  und : Try.prog.underlying t = some (.slice e)
  info : ∃ i z, Try.prog.info? e = some i ∧ i.zero = some z ∧ i.size = size ∧ i.bytes = bytes ∧ z.cells.size = size
  pos : 0 < size

theorem SlT.mk' {t e : TypeId} {size bytes : Nat} {z : Value} (h1 : Try.prog.underlying t = some (.slice e)) (h2 : (Try.prog.info? e).map (fun i => (i.zero, i.size, i.bytes)) = some (some z, size, bytes)) (h3 : z.cells.size = size) (h4 : 0 < size) : SlT t e size bytes := by
  obtain ⟨i, a, b, c, d⟩ := info_parts h2
  exact ⟨h1, ⟨i, z, a, b, c, d, h3⟩, h4⟩

set_option maxRecDepth 100000 in
/-- append(v, xs...) where v is one's own. -/
theorem r_ap {t e ty : TypeId} {size bytes base n m c : Nat} {v : Value} {xs news : List Value} {a : Addr} {w : World} {K : Value → World → Prop} (T : SlT t e size bytes)
    (hown : w.ownsRow base e size v n xs) (hl : news.length = m * size) (hnews : ∀ j u, news[j]? = some u → w.cell? (a.add j) = some u) (h1 : ∀ u ∈ news, u.oneCell' = true)
    (hn : n + m ≤ 1099511627776) (hby : bytes ≤ 128) (hb : base ≤ w.heap.size)
    (hk : ∀ v' w', w'.ownsRow base e size v' (n + m) (xs ++ news) → w.grownBy w' v.ownBlock → (v' = .slice none 0 0 ↔ v = .slice none 0 0 ∧ m = 0) → K v' w') : semW Try.prog (apS [t, t] ty [v, .slice (some a) m c]) w K := by
  obtain ⟨i, z, i1, i2, i3, i4, i5⟩ := T.info
  have hb2 : (n + m) * bytes ≤ 140737488355328 := by
    have h := Nat.mul_le_mul hn hby
    exact Nat.le_trans h (by decide)
  obtain ⟨v', w', hr, h2, h3, h4⟩ := run_append_own (P := Try.prog) w base t ty e i z size bytes T.und i1 i2 i3 i4 i5 T.pos v n xs hown a m c news hl hnews h1 (by unfold maxLen; omega) hb2 hb
  exact semW_of_run (by simp [apS, hr]) (hk v' w' h2 h3 h4)

set_option maxRecDepth 100000 in
/-- append(v, xs...), xs of no element, at whatever address or nil. -/
theorem r_ap0 {t e ty : TypeId} {size bytes base n c : Nat} {v : Value} {xs : List Value} {a : Option Addr} {w : World} {K : Value → World → Prop} (T : SlT t e size bytes)
    (hown : w.ownsRow base e size v n xs) (hk : K v w) : semW Try.prog (apS [t, t] ty [v, .slice a 0 c]) w K := by
  obtain ⟨i, z, i1, i2, i3, i4, i5⟩ := T.info
  refine semW_of_run (v := v) (w' := w) ?_ hk
  have hs : (sizeOf e).run Try.prog w = .ok size w := by simp [sizeOf, typeInfo, i1, i3]
  rcases hown.2 with ⟨rfl, rfl⟩ | ⟨g, cap, cur, rfl, _, _, hle, _⟩
  · cases a <;> simp [apS, Builtin.append_, run_underlying' T.und, hs, Builtin.lenOf, Builtin.firstCells, loadCells, loadCellsFrom]
  · cases a <;> simp [apS, Builtin.append_, run_underlying' T.und, hs, Builtin.lenOf, Builtin.firstCells, loadCells, loadCellsFrom, hle, storeCells]

theorem cells_at_row {w : World} {b : Nat} {cs : Array Value} {t : TypeId} {fr : Nat × Nat} (h : w.heap[b]? = some (.cells cs t fr)) : ∀ j u, cs.toList[j]? = some u → w.cell? ((⟨b, 0, none⟩ : Addr).add j) = some u := by
  intro j u hj
  rw [r_addr, cell_row h]
  simpa using hj

set_option maxRecDepth 100000 in
/-- append(v, x): the element in a block of its own first. -/
theorem r_push {t e ty : TypeId} {size bytes base n : Nat} {v x : Value} {xs : List Value} {w : World} {K : Value → World → Prop} (T : SlT t e size bytes)
    (hbs : ∀ K : Value → World → Prop, bsW Try.prog t 1 [(0, x)] w K = K (.slice (some ⟨w.heap.size, 0, none⟩) 1 1) (w.alloc (.cells x.cells e)))
    (hx : x.cells.size = size) (h1 : ∀ u ∈ x.cells.toList, u.oneCell' = true) (hown : w.ownsRow base e size v n xs) (hn : n + 1 ≤ 1099511627776) (hby : bytes ≤ 128) (hb : base ≤ w.heap.size)
    (hk : ∀ v' w', w'.ownsRow base e size v' (n + 1) (xs ++ x.cells.toList) → w.grownBy w' v.ownBlock → K v' w') :
    bsW Try.prog t 1 [(0, x)] w fun s w => semW Try.prog (apS [t, t] ty [v, s]) w K := by
  rw [hbs]
  refine r_ap T (hown.alloc _) (by simp [hx]) (cells_at_row (heap_alloc_new w _)) h1 hn hby (by show base ≤ (w.heap.push _).size; simp; omega) fun v' w' ho hg _ => hk v' w' ho ?_
  exact ⟨hg.os, hg.tape, hg.output, Nat.le_trans (by show _ ≤ (w.heap.push _).size; simp) hg.size, fun k hlt hne => (hg.block k (by show k < (w.heap.push _).size; simp; omega) hne).trans (Below.heap_alloc w _ k hlt)⟩

/-- What is owned stays so while other blocks turn. -/
theorem owns_chg {S : Nat → Prop} {w w' : World} {base n size : Nat} {e : TypeId} {v : Value} {xs : List Value} (h : w.ownsRow base e size v n xs) (hc : Chg S w w') (hs : ∀ k, v.ownBlock = some k → ¬ S k) : w'.ownsRow base e size v n xs := by
  refine ⟨h.1, ?_⟩
  rcases h.2 with h2 | ⟨g, cap, cur, rfl, hb, hg, r⟩
  · exact .inl h2
  · exact .inr ⟨g, cap, cur, rfl, hb, hc.at hg (hs g rfl), r⟩
theorem owns_kp {w w' : World} {base n size : Nat} {e : TypeId} {v : Value} {xs : List Value} (h : w.ownsRow base e size v n xs) (hk : Kp w w') : w'.ownsRow base e size v n xs :=
  owns_chg (S := fun _ => False) h (Chg.of_kp hk) fun _ _ h => h

theorem slt30 : SlT 30 3 1 8 := SlT.mk' (z := .int .i64 0) (by kernel_rfl) (by kernel_rfl) rfl (by decide)
theorem slt23 : SlT 23 30 1 24 := SlT.mk' (z := .slice none 0 0) (by kernel_rfl) (by kernel_rfl) rfl (by decide)
theorem bs23 (a : Option Addr) (n c : Nat) (w : World) (K : Value → World → Prop) : bsW Try.prog 23 1 [(0, .slice a n c)] w K = K (.slice (some ⟨w.heap.size, 0, none⟩) 1 1) (w.alloc (.cells #[.slice a n c] 30)) := by kernel_rfl
theorem bs30 (k : IntKind) (x : Int) (w : World) (K : Value → World → Prop) : bsW Try.prog 30 1 [(0, .int k x)] w K = K (.slice (some ⟨w.heap.size, 0, none⟩) 1 1) (w.alloc (.cells #[.int k x] 3)) := by kernel_rfl

theorem mkCells_one (z : Value) (n : Nat) : mkCells #[z] n = Array.replicate n z := by
  apply Array.ext
  · simp [mkCells]
  · intro i h1 h2
    simp [mkCells, Nat.mod_one]

/-- make([]int, n) -/
theorem mk30 {n : Nat} {w : World} {K : Value → World → Prop} (hn : n ≤ 1099511627776) (h : K (.slice (some ⟨w.heap.size, 0, none⟩) n n) (w.alloc (.cells (Array.replicate n (.int .i64 0)) 3))) :
    mkW Try.prog 30 (.int .i64 n) (.int .i64 n) w K := by
  have e : ∀ (l : Int) (K : Value → World → Prop), mkW Try.prog 30 (.int .i64 l) (.int .i64 l) w K = (0 ≤ l ∧ l ≤ l ∧ l ≤ 4611686018427387904 ∧ ((8 : Nat) : Int) * l ≤ 281474976710656 ∧ 0 < 1 ∧
      K (.slice (some ⟨w.heap.size, 0, none⟩) l.toNat l.toNat) (w.alloc (.cells (mkCells #[.int .i64 0] (l.toNat * 1)) 3))) := fun l K => by kernel_rfl
  rw [e]
  refine ⟨by omega, by omega, by omega, by omega, by omega, ?_⟩
  rw [Nat.mul_one, mkCells_one, Int.toNat_natCast]
  exact h

/-- A store of one integer. -/
theorem st3 {w : World} {a : Addr} {n : Int} {v : Value} {K : World → Prop} (hc : w.cell? a = some v) (hf : w.frozen? a = false) : stW Try.prog 3 (.pointer (some a)) (.int .i64 n) w K = K (w.setCell a (.int .i64 n)) := by
  have e : stW Try.prog 3 (.pointer (some a)) (.int .i64 n) w K = ((w.cell? (a.add 0)).isSome = true ∧ w.frozen? (a.add 0) = false ∧ true = true ∧ K (w.setCell (a.add 0) (.int .i64 n))) := by kernel_rfl
  rw [e]
  have ha : a.add 0 = a := rfl
  simp [ha, hc, hf]

end Go.Proofs.Ytgalbokmgffhkaa
