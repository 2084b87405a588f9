/- Heaps of cubes as lists of lists: when one is right. Plain; no program. -/
set_option linter.all false
namespace Go.Hp

def validB (A B C : Int) : Bool := decide (1 ≤ A ∧ A ≤ 4 ∧ 1 ≤ B ∧ B ≤ 4 ∧ 1 ≤ C ∧ C ≤ 4)

/-- The number at row i, column j. -/
def hat (h : List (List Int)) (i j : Nat) : Int := (h.getD i []).getD j 0

/-- The greatest number that may stand at a place. -/
def mostM (C : Int) (h : List (List Int)) (i j : Nat) : Int :=
  let m := if 0 < j then min C (hat h i (j - 1)) else C
  if 0 < i then min m (hat h (i - 1) j) else m

def okAt (C : Int) (h : List (List Int)) (i j : Nat) : Bool := decide (0 ≤ hat h i j ∧ hat h i j ≤ mostM C h i j)
def rowOk (B C : Int) (h : List (List Int)) (i : Nat) : Bool := decide (((h.getD i []).length : Int) = B) && (List.range (h.getD i []).length).all (okAt C h i)
def heapOk (A B C : Int) (h : List (List Int)) : Bool := decide ((h.length : Int) = A) && (List.range h.length).all (rowOk B C h)

theorem heapOk_len {A B C : Int} {h : List (List Int)} (e : ¬ (h.length : Int) = A) : heapOk A B C h = false := by simp [heapOk, e]
theorem heapOk_row {A B C : Int} {h : List (List Int)} {i : Nat} (hi : i < h.length) (e : rowOk B C h i = false) : heapOk A B C h = false := by
  have : (List.range h.length).all (rowOk B C h) = false := by
    rw [List.all_eq_false]; exact ⟨i, by simpa using hi, by simp [e]⟩
  simp [heapOk, this]
theorem heapOk_true {A B C : Int} {h : List (List Int)} (e : (h.length : Int) = A) (hr : ∀ i, i < h.length → rowOk B C h i = true) : heapOk A B C h = true := by
  have : (List.range h.length).all (rowOk B C h) = true := by rw [List.all_eq_true]; intro i hi; exact hr i (by simpa using hi)
  simp [heapOk, e, this]
theorem rowOk_len0 {B C : Int} {h : List (List Int)} {i : Nat} (e : ¬ ((h.getD i []).length : Int) = B) : rowOk B C h i = false := by simp only [rowOk, e, decide_false, Bool.false_and]
theorem rowOk_at {B C : Int} {h : List (List Int)} {i j : Nat} (hj : j < (h.getD i []).length) (e : okAt C h i j = false) : rowOk B C h i = false := by
  have : (List.range (h.getD i []).length).all (okAt C h i) = false := by
    rw [List.all_eq_false]; exact ⟨j, by simpa using hj, by simp [e]⟩
  simp only [rowOk, this, Bool.and_false]
theorem rowOk_true {B C : Int} {h : List (List Int)} {i : Nat} (e : ((h.getD i []).length : Int) = B) (hr : ∀ j, j < (h.getD i []).length → okAt C h i j = true) : rowOk B C h i = true := by
  have : (List.range (h.getD i []).length).all (okAt C h i) = true := by rw [List.all_eq_true]; intro j hj; exact hr j (by simpa using hj)
  simp only [rowOk, e, this, decide_true, Bool.and_true]
theorem rowOk_len {B C : Int} {h : List (List Int)} {i : Nat} (e : rowOk B C h i = true) : ((h.getD i []).length : Int) = B := by
  simp only [rowOk, Bool.and_eq_true, decide_eq_true_eq] at e; exact e.1

/-- What a heap is. -/
structure IsHeap (A B C : Int) (h : List (List Int)) : Prop where
  len : (h.length : Int) = A
  row : ∀ i, i < h.length → ((h.getD i []).length : Int) = B
  pos : ∀ i j : Nat, i < h.length → (j : Int) < B → 0 ≤ hat h i j
  top : ∀ i j : Nat, i < h.length → (j : Int) < B → hat h i j ≤ C
  left : ∀ i j : Nat, i < h.length → (j : Int) + 1 < B → hat h i (j + 1) ≤ hat h i j
  up : ∀ i j : Nat, i + 1 < h.length → (j : Int) < B → hat h (i + 1) j ≤ hat h i j

theorem okAt_iff {C : Int} {h : List (List Int)} {i j : Nat} : okAt C h i j = true ↔ 0 ≤ hat h i j ∧ hat h i j ≤ C ∧ (0 < j → hat h i j ≤ hat h i (j - 1)) ∧ (0 < i → hat h i j ≤ hat h (i - 1) j) := by
  unfold okAt
  rw [decide_eq_true_eq]
  unfold mostM
  dsimp only
  constructor
  · rintro ⟨h1, h2⟩
    refine ⟨h1, ?_, fun hj => ?_, fun hi => ?_⟩ <;> (split at h2 <;> first | omega | (split at h2 <;> omega))
  · rintro ⟨h1, h2, h3, h4⟩
    refine ⟨h1, ?_⟩
    by_cases hj : 0 < j <;> by_cases hi : 0 < i
    · have := h3 hj; have := h4 hi; simp only [hi, hj, if_true]; omega
    · have := h3 hj; simp only [hi, hj, if_true, if_false]; omega
    · have := h4 hi; simp only [hi, hj, if_true, if_false]; omega
    · simp only [hi, hj, if_false]; omega

theorem heapOk_iff {A B C : Int} {h : List (List Int)} : heapOk A B C h = true ↔ IsHeap A B C h := by
  constructor
  · intro e
    simp only [heapOk, Bool.and_eq_true, decide_eq_true_eq, List.all_eq_true, List.mem_range] at e
    obtain ⟨e1, e2⟩ := e
    have hat' : ∀ i j : Nat, i < h.length → (j : Int) < B → okAt C h i j = true := by
      intro i j hi hj
      have := e2 i hi
      simp only [rowOk, Bool.and_eq_true, decide_eq_true_eq, List.all_eq_true, List.mem_range] at this
      exact this.2 j (by omega)
    refine ⟨e1, fun i hi => rowOk_len (e2 i hi), fun i j hi hj => ?_, fun i j hi hj => ?_, fun i j hi hj => ?_, fun i j hi hj => ?_⟩
    · exact (okAt_iff.1 (hat' i j hi hj)).1
    · exact (okAt_iff.1 (hat' i j hi hj)).2.1
    · have := (okAt_iff.1 (hat' i (j + 1) hi (by omega))).2.2.1 (by omega); simpa using this
    · have := (okAt_iff.1 (hat' (i + 1) j hi hj)).2.2.2 (by omega); simpa using this
  · intro e
    refine heapOk_true e.len fun i hi => rowOk_true (e.row i hi) fun j hj => okAt_iff.2 ?_
    have hjB : (j : Int) < B := by have := e.row i hi; omega
    refine ⟨e.pos i j hi hjB, e.top i j hi hjB, fun h0 => ?_, fun h0 => ?_⟩
    · have := e.left i (j - 1) hi (by omega); rwa [show j - 1 + 1 = j by omega] at this
    · have := e.up (i - 1) j (by omega) hjB; rwa [show i - 1 + 1 = i by omega] at this

end Go.Hp

namespace Go.Hp

/-- h with x at row i, column j. -/
def put2 (h : List (List Int)) (i j : Nat) (x : Int) : List (List Int) := h.set i ((h.getD i []).set j x)

theorem put2_length (h : List (List Int)) (i j : Nat) (x : Int) : (put2 h i j x).length = h.length := by simp [put2]
theorem put2_row (h : List (List Int)) (i j k : Nat) (x : Int) (hi : i < h.length) : (put2 h i j x).getD k [] = if k = i then (h.getD i []).set j x else h.getD k [] := by
  by_cases hk : k = i
  · subst hk; simp [put2, hi]
  · simp [put2, hk, List.getElem?_set_ne (Ne.symm hk)]
theorem put2_len (h : List (List Int)) (i j k : Nat) (x : Int) (hi : i < h.length) : ((put2 h i j x).getD k []).length = (h.getD k []).length := by
  rw [put2_row h i j k x hi]; split
  · subst_vars; simp
  · rfl
theorem put2_hat (h : List (List Int)) (i j k l : Nat) (x : Int) (hi : i < h.length) (hj : j < (h.getD i []).length) : hat (put2 h i j x) k l = if k = i ∧ l = j then x else hat h k l := by
  unfold hat
  rw [put2_row h i j k x hi]
  by_cases hk : k = i
  · subst hk
    rw [if_pos rfl]
    by_cases hl : l = j
    · subst hl
      rw [if_pos ⟨rfl, rfl⟩, List.getD_eq_getElem?_getD, List.getElem?_set_self hj]; rfl
    · rw [if_neg (fun e => hl e.2), List.getD_eq_getElem?_getD, List.getElem?_set_ne (Ne.symm hl), ← List.getD_eq_getElem?_getD]
  · rw [if_neg hk, if_neg (fun e => hk e.1)]

/-- The last place below p whose number may grow. -/
def findP (B : Nat) (C : Int) (h : List (List Int)) : Nat → Option Nat
  | 0 => none
  | p + 1 => if hat h (p / B) (p % B) < mostM C h (p / B) (p % B) then some p else findP B C h p

/-- Zeros from place p on, m of them. -/
def clr (B : Nat) (h : List (List Int)) (p : Nat) : Nat → List (List Int)
  | 0 => h
  | m + 1 => put2 (clr B h p m) ((p + m) / B) ((p + m) % B) 0

/-- What Next does. -/
def nextM (A B : Nat) (C : Int) (h : List (List Int)) : Option (List (List Int)) :=
  match findP B C h (A * B) with
  | none => none
  | some p => some (clr B (put2 h (p / B) (p % B) (hat h (p / B) (p % B) + 1)) (p + 1) (A * B - (p + 1)))

/-- h has A rows of B numbers. -/
def Sized (A B : Nat) (h : List (List Int)) : Prop := h.length = A ∧ ∀ i, i < A → (h.getD i []).length = B

theorem put2_sized {A B : Nat} {h : List (List Int)} (hs : Sized A B h) {i j : Nat} (hi : i < A) (x : Int) : Sized A B (put2 h i j x) :=
  ⟨by rw [put2_length]; exact hs.1, fun k hk => by rw [put2_len _ _ _ _ _ (by rw [hs.1]; exact hi)]; exact hs.2 k hk⟩
theorem clr_sized {A B : Nat} {h : List (List Int)} (hs : Sized A B h) (hB : 0 < B) (p : Nat) : ∀ m, p + m ≤ A * B → Sized A B (clr B h p m)
  | 0, _ => hs
  | m + 1, hm => put2_sized (clr_sized hs hB p m (by omega)) ((Nat.div_lt_iff_lt_mul hB).2 (by omega)) 0

end Go.Hp

namespace Go.Hp

def NonNeg (A B : Nat) (h : List (List Int)) : Prop := ∀ i j, i < A → j < B → 0 ≤ hat h i j

theorem put2_nonneg {A B : Nat} {h : List (List Int)} (hs : Sized A B h) (hn : NonNeg A B h) {i j : Nat} (hi : i < A) (hj : j < B) {x : Int} (hx : 0 ≤ x) : NonNeg A B (put2 h i j x) := fun k l hk hl => by
  rw [put2_hat h i j k l x (by rw [hs.1]; exact hi) (by rw [hs.2 i hi]; exact hj)]
  split
  · exact hx
  · exact hn k l hk hl
theorem clr_nonneg {A B : Nat} {h : List (List Int)} (hs : Sized A B h) (hn : NonNeg A B h) (hB : 0 < B) (p : Nat) : ∀ m, p + m ≤ A * B → NonNeg A B (clr B h p m)
  | 0, _ => hn
  | m + 1, hm => put2_nonneg (clr_sized hs hB p m (by omega)) (clr_nonneg hs hn hB p m (by omega)) ((Nat.div_lt_iff_lt_mul hB).2 (by omega)) (Nat.mod_lt _ hB) (Int.le_refl 0)

theorem findP_lt {B : Nat} {C : Int} {h : List (List Int)} : ∀ {n p : Nat}, findP B C h n = some p → p < n
  | n + 1, p, e => by
    unfold findP at e
    split at e
    · cases e; omega
    · have := findP_lt e; omega

theorem nextM_keeps {A B : Nat} {C : Int} {h h' : List (List Int)} (hs : Sized A B h) (hn : NonNeg A B h) (hB : 0 < B) (e : nextM A B C h = some h') : Sized A B h' ∧ NonNeg A B h' := by
  unfold nextM at e
  cases hf : findP B C h (A * B) with
  | none => simp [hf] at e
  | some p =>
    simp only [hf, Option.some.injEq] at e
    subst e
    have hp := findP_lt hf
    have hi : p / B < A := (Nat.div_lt_iff_lt_mul hB).2 hp
    have hj := Nat.mod_lt p hB
    have h1 := put2_sized hs hi (j := p % B) (hat h (p / B) (p % B) + 1)
    have h2 := put2_nonneg hs hn hi hj (x := hat h (p / B) (p % B) + 1) (by have := hn _ _ hi hj; omega)
    exact ⟨clr_sized h1 hB _ _ (by omega), clr_nonneg h1 h2 hB _ _ (by omega)⟩

def zeros (A B : Nat) : List (List Int) := List.replicate A (List.replicate B 0)
theorem zeros_sized (A B : Nat) : Sized A B (zeros A B) := ⟨by simp [zeros], fun i hi => by simp [zeros, hi]⟩
theorem zeros_hat (A B i j : Nat) : hat (zeros A B) i j = 0 := by
  unfold hat zeros
  by_cases hi : i < A
  · by_cases hj : j < B <;> simp [hi, hj]
  · simp [hi]
theorem zeros_nonneg (A B : Nat) : NonNeg A B (zeros A B) := fun i j _ _ => by rw [zeros_hat]; exact Int.le_refl 0

/-- The heap that n times Next makes of the empty one. -/
def iterN (A B : Nat) (C : Int) : Nat → Option (List (List Int))
  | 0 => some (zeros A B)
  | n + 1 => (iterN A B C n).bind (nextM A B C)

theorem iterN_keeps {A B : Nat} {C : Int} (hB : 0 < B) : ∀ (n : Nat) (h : List (List Int)), iterN A B C n = some h → Sized A B h ∧ NonNeg A B h
  | 0, h, e => by cases e; exact ⟨zeros_sized A B, zeros_nonneg A B⟩
  | n + 1, h, e => by
    simp only [iterN] at e
    cases h1 : iterN A B C n with
    | none => simp [h1] at e
    | some h0 =>
      simp [h1] at e
      obtain ⟨a, b⟩ := iterN_keeps hB n h0 h1
      exact nextM_keeps a b hB e

theorem iterN_none {A B : Nat} {C : Int} {n : Nat} (h : iterN A B C n = none) : ∀ m, iterN A B C (n + m) = none
  | 0 => h
  | m + 1 => by rw [← Nat.add_assoc, iterN, iterN_none h m]; rfl

end Go.Hp
