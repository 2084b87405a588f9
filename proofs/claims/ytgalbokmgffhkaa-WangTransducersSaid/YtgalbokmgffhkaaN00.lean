/- Texts of my own, merged by program: T1 E1 Lift1. -/
import Derived.WalkKit
import Derived.Orders
set_option linter.all false
/- Wang tiles, plainly: sets, rows of tiles, their colours as numbers. No program. -/
namespace Go.Wg

/-- North, East, South, West. -/
abbrev Tile := Int × Int × Int × Int
abbrev tN (t : Tile) : Int := t.1
abbrev tE (t : Tile) : Int := t.2.1
abbrev tS (t : Tile) : Int := t.2.2.1
abbrev tW (t : Tile) : Int := t.2.2.2
abbrev t0 : Tile := (0, 0, 0, 0)

/-- The tile at a place of a set. -/
def tl (l : List Tile) (i : Nat) : Tile := l.getD i t0
theorem tl_get {l : List Tile} {i : Nat} (h : i < l.length) : l[i]? = some (tl l i) := by
  simp [tl, List.getD_eq_getElem?_getD, h]

def colB (n : Int) : Bool := decide (0 ≤ n ∧ n ≤ 7)
def colsB (t : Tile) : Bool := colB (tN t) && colB (tE t) && colB (tS t) && colB (tW t)
/-- Tiles from place i on are well coloured and none of them stands before. -/
def freshB (l : List Tile) : Bool := (List.range l.length).all fun i => colsB (tl l i) && !decide (tl l i ∈ l.take i)
def setB (l : List Tile) : Bool := decide (1 ≤ l.length ∧ l.length ≤ 16) && freshB l
def sideB (n : Int) : Bool := decide (1 ≤ n ∧ n ≤ 4)

structure IsSet (l : List Tile) : Prop where
  pos : 1 ≤ l.length
  most : l.length ≤ 16
  cols : ∀ t ∈ l, colsB t = true
  nodup : l.Nodup

theorem getD_mem {α : Type} {l : List α} {i : Nat} {d : α} (h : i < l.length) : l.getD i d ∈ l := by
  rw [List.getD_eq_getElem?_getD, List.getElem?_eq_getElem h]
  exact List.getElem_mem h

theorem nodup_take {α : Type} {d : α} : ∀ {l : List α}, (∀ i, i < l.length → l.getD i d ∉ l.take i) → l.Nodup := by
  intro l h
  rw [List.nodup_iff_pairwise_ne] at *
  rw [List.pairwise_iff_getElem]
  intro i j hi hj hij e
  refine h j hj ?_
  rw [List.getD_eq_getElem?_getD, List.getElem?_eq_getElem hj, Option.getD_some, ← e, List.mem_take_iff_getElem]
  exact ⟨i, by omega, rfl⟩

theorem isSet_of {l : List Tile} (h : setB l = true) : IsSet l := by
  simp only [setB, freshB, Bool.and_eq_true, decide_eq_true_eq, List.all_eq_true, List.mem_range, Bool.not_eq_true', decide_eq_false_iff_not] at h
  obtain ⟨⟨h1, h2⟩, h3⟩ := h
  refine ⟨h1, h2, fun t ht => ?_, nodup_take (d := t0) fun i hi => (h3 i hi).2⟩
  obtain ⟨i, hi, rfl⟩ := List.getElem_of_mem ht
  have := (h3 i hi).1
  rwa [tl, List.getD_eq_getElem?_getD, List.getElem?_eq_getElem hi] at this

theorem cols_range {t : Tile} (h : colsB t = true) : (0 ≤ tN t ∧ tN t ≤ 7) ∧ (0 ≤ tE t ∧ tE t ≤ 7) ∧ (0 ≤ tS t ∧ tS t ≤ 7) ∧ (0 ≤ tW t ∧ tW t ≤ 7) := by
  simp only [colsB, colB, Bool.and_eq_true, decide_eq_true_eq] at h
  exact ⟨h.1.1.1, h.1.1.2, h.1.2, h.2⟩

/-! ### rows -/

theorem tl_cols {l : List Tile} (hs : IsSet l) {i : Nat} (hi : i < l.length) : (0 ≤ tN (tl l i) ∧ tN (tl l i) ≤ 7) ∧ (0 ≤ tE (tl l i) ∧ tE (tl l i) ≤ 7) ∧ (0 ≤ tS (tl l i) ∧ tS (tl l i) ≤ 7) ∧ (0 ≤ tW (tl l i) ∧ tW (tl l i) ≤ 7) :=
  cols_range (hs.cols _ (by unfold tl; exact getD_mem hi))

/-- May tile i come behind the row r? -/
def fits (l : List Tile) (r : List Nat) (i : Nat) : Bool := decide (r = []) || decide (tE (tl l (r.getLastD 0)) = tW (tl l i))
/-- All rows that go on from r by n tiles. -/
def exts (l : List Tile) : Nat → List Nat → List (List Nat)
  | 0, r => [r]
  | n + 1, r => (List.range l.length).flatMap fun i => if fits l r i = true then exts l n (r ++ [i]) else []
def rowsL (l : List Tile) (w : Nat) : List (List Nat) := exts l w []

/-- Colours as a number to the base 8. -/
def code (c : List Int) : Int := c.foldl (fun n x => n * 8 + x) 0
theorem code_push (c : List Int) (x : Int) : code (c ++ [x]) = code c * 8 + x := by simp [code]
theorem code_nil : code [] = 0 := rfl
def norths (l : List Tile) (r : List Nat) : List Int := r.map fun i => tN (tl l i)
def souths (l : List Tile) (r : List Nat) : List Int := r.map fun i => tS (tl l i)

/-- A row's record: tiles (four of them, those behind the row are 0), North and South as numbers, whether it closes. -/
abbrev Line := List Int × Int × Int × Bool
def pad4 (r : List Nat) : List Int := (List.range 4).map fun k => ((r.getD k 0 : Nat) : Int)
def partOf (l : List Tile) (r : List Nat) : Line := (pad4 r, code (norths l r), code (souths l r), false)
def closes (l : List Tile) (r : List Nat) : Bool := decide (tW (tl l (r.getD 0 0)) = tE (tl l (r.getLastD 0)))
def lineOf (l : List Tile) (r : List Nat) : Line := (pad4 r, code (norths l r), code (souths l r), closes l r)

theorem pad4_len (r : List Nat) : (pad4 r).length = 4 := by simp [pad4]
theorem pad4_at (r : List Nat) {k : Nat} (hk : k < 4) : (pad4 r).getD k 0 = ((r.getD k 0 : Nat) : Int) := by
  simp [pad4, List.getD_eq_getElem?_getD, hk]
theorem pad4_push {r : List Nat} {i : Nat} (h : r.length < 4) : pad4 (r ++ [i]) = (pad4 r).set r.length (i : Int) := by
  refine List.ext_getElem (by simp [pad4]) fun k h1 h2 => ?_
  have hk : k < 4 := by simpa [pad4] using h1
  by_cases e : k = r.length
  · subst e
    simp [pad4]
  · rw [List.getElem_set_ne (by omega)]
    simp only [pad4, List.getElem_map, List.getElem_range, List.getD_eq_getElem?_getD]
    congr 2
    by_cases hlt : k < r.length
    · rw [List.getElem?_append_left hlt]
    · rw [List.getElem?_eq_none (by simp; omega), List.getElem?_eq_none (by omega)]

theorem code_bound {c : List Int} (h : ∀ x ∈ c, 0 ≤ x ∧ x ≤ 7) : 0 ≤ code c ∧ code c < 8 ^ c.length := by
  have key : ∀ (c : List Int) (n : Int), (∀ x ∈ c, 0 ≤ x ∧ x ≤ 7) → 0 ≤ n → 0 ≤ c.foldl (fun n x => n * 8 + x) n ∧ c.foldl (fun n x => n * 8 + x) n < (n + 1) * 8 ^ c.length := by
    intro c
    induction c with
    | nil => intro n _ hn; simp; omega
    | cons y c ih =>
      intro n h hn
      have hy := h y (by simp)
      have := ih (n * 8 + y) (fun x hx => h x (by simp [hx])) (by omega)
      simp only [List.foldl_cons, List.length_cons]
      refine ⟨this.1, Int.lt_of_lt_of_le this.2 ?_⟩
      rw [Int.pow_succ, Int.mul_comm (8 ^ c.length) 8, ← Int.mul_assoc]
      exact Int.mul_le_mul_of_nonneg_right (by omega) (Int.pow_nonneg (by omega))
  have := key c 0 h (Int.le_refl 0)
  simpa [code] using this

/-- What a row of the list is. -/
structure IsRow (l : List Tile) (r : List Nat) : Prop where
  lt : ∀ i ∈ r, i < l.length
  chain : ∀ k, k + 1 < r.length → tE (tl l (r.getD k 0)) = tW (tl l (r.getD (k + 1) 0))

theorem mem_exts {l : List Tile} : ∀ (n : Nat) (r q : List Nat), q ∈ exts l n r ↔ ∃ s, q = r ++ s ∧ s.length = n ∧ (∀ i ∈ s, i < l.length) ∧ ∀ k, k < n → fits l (r ++ s.take k) (s.getD k 0) = true
  | 0, r, q => by
    simp only [exts, List.mem_singleton]
    constructor
    · rintro rfl
      exact ⟨[], by simp, rfl, by simp, fun k hk => absurd hk (by omega)⟩
    · rintro ⟨s, rfl, hs, _⟩
      have : s = [] := List.length_eq_zero_iff.1 hs
      simp [this]
  | n + 1, r, q => by
    simp only [exts, List.mem_flatMap, List.mem_range]
    constructor
    · rintro ⟨i, hi, hq⟩
      split at hq
      case isFalse => cases hq
      rename_i hf
      obtain ⟨s, rfl, hs, hlt, hk⟩ := (mem_exts n (r ++ [i]) q).1 hq
      refine ⟨i :: s, by simp, by simp [hs], fun j hj => ?_, fun k hkn => ?_⟩
      · rcases List.mem_cons.1 hj with rfl | hj
        · exact hi
        · exact hlt j hj
      · cases k with
        | zero => simpa using hf
        | succ k =>
          have := hk k (by omega)
          simpa using this
    · rintro ⟨s, rfl, hs, hlt, hk⟩
      cases s with
      | nil => simp at hs
      | cons i s =>
        refine ⟨i, hlt i (by simp), ?_⟩
        have h0 := hk 0 (by omega)
        simp at h0
        rw [if_pos h0]
        refine (mem_exts n (r ++ [i]) _).2 ⟨s, by simp, by simpa using hs, fun j hj => hlt j (by simp [hj]), fun k hkn => ?_⟩
        have := hk (k + 1) (by omega)
        simpa using this

theorem mem_rowsL {l : List Tile} {w : Nat} {r : List Nat} : r ∈ rowsL l w ↔ r.length = w ∧ IsRow l r := by
  unfold rowsL
  rw [mem_exts]
  constructor
  · rintro ⟨s, e, hs, hlt, hk⟩
    simp only [List.nil_append] at e
    subst e
    refine ⟨hs, hlt, fun k hkl => ?_⟩
    have := hk (k + 1) (by omega)
    simp only [List.nil_append, fits, Bool.or_eq_true, decide_eq_true_eq] at this
    rcases this with h | h
    · have := congrArg List.length h
      rw [List.length_take, List.length_nil] at this
      omega
    · rw [List.take_add_one, List.getElem?_eq_getElem (by omega)] at h
      simp only [Option.toList_some, List.getLastD_concat] at h
      rw [List.getD_eq_getElem?_getD, List.getElem?_eq_getElem (by omega)]
      exact h
  · rintro ⟨hl, hr⟩
    refine ⟨r, by simp, hl, hr.lt, fun k hk => ?_⟩
    simp only [List.nil_append, fits, Bool.or_eq_true, decide_eq_true_eq]
    cases k with
    | zero => left; simp
    | succ k =>
      right
      have := hr.chain k (by omega)
      rw [List.take_add_one, List.getElem?_eq_getElem (by omega)]
      simp only [Option.toList_some, List.getLastD_concat]
      rw [List.getD_eq_getElem?_getD, List.getElem?_eq_getElem (by omega)] at this
      exact this

theorem exts_length_le {l : List Tile} (hl : l.length ≤ 16) : ∀ (n : Nat) (r : List Nat), (exts l n r).length ≤ 16 ^ n
  | 0, _ => by simp [exts]
  | n + 1, r => by
    have key : ∀ L : List Nat, (L.flatMap fun i => if fits l r i = true then exts l n (r ++ [i]) else []).length ≤ L.length * 16 ^ n := by
      intro L
      induction L with
      | nil => simp
      | cons i L ih =>
        rw [List.flatMap_cons, List.length_append, List.length_cons, Nat.add_mul, Nat.one_mul]
        have h1 : (if fits l r i = true then exts l n (r ++ [i]) else []).length ≤ 16 ^ n := by
          split
          · exact exts_length_le hl n _
          · simp
        omega
    have := key (List.range l.length)
    rw [List.length_range] at this
    rw [exts, Nat.pow_succ, Nat.mul_comm]
    exact Nat.le_trans this (Nat.mul_le_mul_right _ hl)

end Go.Wg

/- Lists of Souths, plainly: how the specification goes through them, and which rows they come of. No program. -/
namespace Go.Wg

def fitsN (nn : Option (List Int)) (x : Nat) (t : Tile) : Bool := match nn with
  | none => true
  | some n => decide (tN t = n.getD x 0)
def condE (nn : Option (List Int)) (x e c : Nat) (t : Tile) : Bool := decide (tS t = (c : Int)) && e.testBit (tW t).toNat && fitsN nn x t
def stepE (nn : Option (List Int)) (x e c : Nat) (a : Nat) (t : Tile) : Nat := if condE nn x e c t = true then a ||| 2 ^ (tE t).toNat else a
/-- The Easts behind the tiles with one South. -/
def nextE (nn : Option (List Int)) (x e c : Nat) (l : List Tile) : Nat := l.foldl (stepE nn x e c) 0
/-- The lists of Souths that go on by k. -/
def rfrom (l : List Tile) (nn : Option (List Int)) : Nat → List Int → Nat → List (List Int)
  | 0, s, _ => [s]
  | k + 1, s, e => (List.range 8).flatMap fun c => if nextE nn s.length e c l = 0 then [] else rfrom l nn k (s ++ [(c : Int)]) (nextE nn s.length e c l)

theorem fold_bit {nn : Option (List Int)} {x e c b : Nat} : ∀ (l : List Tile) (a : Nat), (l.foldl (stepE nn x e c) a).testBit b = true ↔ a.testBit b = true ∨ ∃ t ∈ l, condE nn x e c t = true ∧ (tE t).toNat = b
  | [], a => by simp
  | t :: l, a => by
    rw [List.foldl_cons, fold_bit l]
    unfold stepE
    by_cases h : condE nn x e c t = true
    · rw [if_pos h, Nat.testBit_or, Nat.testBit_two_pow]
      simp only [Bool.or_eq_true, decide_eq_true_eq, List.mem_cons, exists_eq_or_imp]
      constructor
      · rintro ((h1 | h1) | h1)
        · exact .inl h1
        · exact .inr (.inl ⟨h, h1⟩)
        · exact .inr (.inr h1)
      · rintro (h1 | ⟨_, h1⟩ | h1)
        · exact .inl (.inl h1)
        · exact .inl (.inr h1)
        · exact .inr h1
    · rw [if_neg h]
      simp only [List.mem_cons, exists_eq_or_imp]
      constructor
      · rintro (h1 | h1)
        · exact .inl h1
        · exact .inr (.inr h1)
      · rintro (h1 | ⟨h1, _⟩ | h1)
        · exact .inl h1
        · exact absurd h1 h
        · exact .inr h1
theorem next_bit {nn : Option (List Int)} {x e c b : Nat} {l : List Tile} : (nextE nn x e c l).testBit b = true ↔ ∃ t ∈ l, condE nn x e c t = true ∧ (tE t).toNat = b := by
  rw [nextE, fold_bit]
  simp

theorem step_lt {nn : Option (List Int)} {x e c a : Nat} {t : Tile} (ht : colsB t = true) (ha : a < 256) : stepE nn x e c a t < 256 := by
  unfold stepE
  split
  · have := cols_range ht
    have h2 : 2 ^ (tE t).toNat < 2 ^ 8 := Nat.pow_lt_pow_right (by omega) (by omega)
    exact Nat.or_lt_two_pow (n := 8) ha h2
  · exact ha
theorem fold_lt {nn : Option (List Int)} {x e c : Nat} : ∀ (l : List Tile) (a : Nat), (∀ t ∈ l, colsB t = true) → a < 256 → l.foldl (stepE nn x e c) a < 256
  | [], a, _, ha => ha
  | t :: l, a, hl, ha => by
    rw [List.foldl_cons]
    exact fold_lt l _ (fun u hu => hl u (by simp [hu])) (step_lt (hl t (by simp)) ha)
theorem next_lt {nn : Option (List Int)} {x e c : Nat} {l : List Tile} (hl : ∀ t ∈ l, colsB t = true) : nextE nn x e c l < 256 := fold_lt l 0 hl (by omega)

theorem rfrom_len {l : List Tile} {nn : Option (List Int)} : ∀ (k : Nat) (s : List Int) (e : Nat), (rfrom l nn k s e).length ≤ 8 ^ k
  | 0, s, e => by simp [rfrom]
  | k + 1, s, e => by
    have key : ∀ (f : Nat → List (List Int)), (∀ c, (f c).length ≤ 8 ^ k) → ∀ n, ((List.range n).flatMap f).length ≤ n * 8 ^ k := fun f hf n => by
      induction n with
      | zero => simp
      | succ n ih =>
        rw [List.range_succ, List.flatMap_append, List.length_append, Nat.add_mul, Nat.one_mul]
        have := hf n
        simp only [List.flatMap_cons, List.flatMap_nil, List.append_nil]
        omega
    rw [rfrom, Nat.pow_succ, Nat.mul_comm]
    refine key _ (fun c => ?_) 8
    split
    · simp
    · exact rfrom_len k _ _
theorem rfrom_row {l : List Tile} {nn : Option (List Int)} : ∀ (k : Nat) (s : List Int) (e : Nat) (r : List Int), r ∈ rfrom l nn k s e → r.length = s.length + k
  | 0, s, e, r, h => by simp [rfrom] at h; simp [h]
  | k + 1, s, e, r, h => by
    rw [rfrom, List.mem_flatMap] at h
    obtain ⟨c, _, h⟩ := h
    split at h
    · cases h
    · have := rfrom_row k _ _ r h
      simp at this
      omega

/-- A chain of tiles from column x on, the first West in a set of colours. -/
def TPath (l : List Tile) (nn : Option (List Int)) : Nat → Nat → List Tile → Prop
  | _, _, [] => True
  | x, e, t :: ts => t ∈ l ∧ fitsN nn x t = true ∧ e.testBit (tW t).toNat = true ∧ TPath l nn (x + 1) (2 ^ (tE t).toNat) ts

theorem TPath.mono {l : List Tile} {nn : Option (List Int)} {x e e' : Nat} (he : ∀ b, e.testBit b = true → e'.testBit b = true) : ∀ {ts : List Tile}, TPath l nn x e ts → TPath l nn x e' ts
  | [], _ => trivial
  | _ :: _, h => ⟨h.1, h.2.1, he _ h.2.2.1, h.2.2.2⟩

theorem exists_bit : ∀ {n : Nat}, n ≠ 0 → ∃ b, n.testBit b = true := fun {n} h => Nat.exists_testBit_of_ne_zero h

theorem TPath.of_next {l : List Tile} {nn : Option (List Int)} {x e c : Nat} {ts : List Tile} (h0 : nextE nn x e c l ≠ 0) (h : TPath l nn (x + 1) (nextE nn x e c l) ts) : ∃ t ∈ l, condE nn x e c t = true ∧ TPath l nn (x + 1) (2 ^ (tE t).toNat) ts := by
  cases ts with
  | nil =>
    obtain ⟨b, hb⟩ := exists_bit h0
    obtain ⟨t, ht, hc, _⟩ := next_bit.1 hb
    exact ⟨t, ht, hc, trivial⟩
  | cons u ts =>
    obtain ⟨h1, h2, h3, h4⟩ := h
    obtain ⟨t, ht, hc, he⟩ := next_bit.1 h3
    exact ⟨t, ht, hc, h1, h2, by rw [he, Nat.testBit_two_pow]; simp, h4⟩

theorem mem_rfrom {l : List Tile} {nn : Option (List Int)} (hl : ∀ t ∈ l, colsB t = true) : ∀ (k : Nat) (pre : List Int) (e : Nat) (s : List Int),
    s ∈ rfrom l nn k pre e ↔ ∃ ts : List Tile, ts.length = k ∧ TPath l nn pre.length e ts ∧ s = pre ++ ts.map tS
  | 0, pre, e, s => by
    simp only [rfrom, List.mem_singleton]
    constructor
    · rintro rfl
      exact ⟨[], rfl, trivial, by simp⟩
    · rintro ⟨ts, h1, _, rfl⟩
      have : ts = [] := List.length_eq_zero_iff.1 h1
      simp [this]
  | k + 1, pre, e, s => by
    rw [rfrom, List.mem_flatMap]
    have elen : ∀ c : Nat, (pre ++ [(c : Int)]).length = pre.length + 1 := fun c => by simp
    constructor
    · rintro ⟨c, hc, h⟩
      split at h
      · cases h
      · rename_i h0
        obtain ⟨ts, h1, h2, rfl⟩ := (mem_rfrom hl k _ _ s).1 h
        rw [elen] at h2
        obtain ⟨t, ht, hcond, hp⟩ := TPath.of_next h0 h2
        simp only [condE, Bool.and_eq_true, decide_eq_true_eq] at hcond
        refine ⟨t :: ts, by simp [h1], ⟨ht, hcond.2, hcond.1.2, hp⟩, ?_⟩
        simp [hcond.1.1]
    · rintro ⟨ts, h1, h2, rfl⟩
      cases ts with
      | nil => simp at h1
      | cons t ts =>
        obtain ⟨ht, hf, hb, hp⟩ := h2
        have hr := cols_range (hl t ht)
        refine ⟨(tS t).toNat, by simp; omega, ?_⟩
        have hcond : condE nn pre.length e (tS t).toNat t = true := by
          simp only [condE, Bool.and_eq_true, decide_eq_true_eq]
          exact ⟨⟨by omega, hb⟩, hf⟩
        have hbit : ∀ b, (2 ^ (tE t).toNat).testBit b = true → (nextE nn pre.length e (tS t).toNat l).testBit b = true := fun b h => by
          rw [Nat.testBit_two_pow, decide_eq_true_eq] at h
          exact next_bit.2 ⟨t, ht, hcond, h⟩
        have h0 : nextE nn pre.length e (tS t).toNat l ≠ 0 := fun h => by
          have := hbit (tE t).toNat (by simp)
          rw [h] at this
          simp at this
        rw [if_neg h0]
        refine (mem_rfrom hl k _ _ _).2 ⟨ts, by simpa using h1, by rw [elen]; exact hp.mono hbit, ?_⟩
        have : (((tS t).toNat : Nat) : Int) = tS t := by omega
        rw [this]
        simp

/-! ### rows of places and rows of tiles -/

theorem path_of_row {l : List Tile} {nn : Option (List Int)} (hl : ∀ t ∈ l, colsB t = true) : ∀ (r : List Nat) (x e : Nat), (∀ i ∈ r, i < l.length) → (∀ k, k + 1 < r.length → tE (tl l (r.getD k 0)) = tW (tl l (r.getD (k + 1) 0))) →
    (0 < r.length → e.testBit (tW (tl l (r.getD 0 0))).toNat = true) → (∀ j, j < r.length → fitsN nn (x + j) (tl l (r.getD j 0)) = true) → TPath l nn x e (r.map (tl l))
  | [], _, _, _, _, _, _ => trivial
  | i :: r, x, e, h1, h2, h3, h4 => by
    have hi := h1 i (by simp)
    have hmem : tl l i ∈ l := by unfold tl; exact getD_mem hi
    refine ⟨hmem, by simpa using h4 0 (by simp), by simpa using h3 (by simp), ?_⟩
    refine path_of_row hl r (x + 1) _ (fun j hj => h1 j (by simp [hj])) (fun k hk => by simpa using h2 (k + 1) (by simpa using hk)) (fun h0 => ?_) (fun j hj => by have := h4 (j + 1) (by simpa using hj); rw [show x + 1 + j = x + (j + 1) by omega]; simpa using this)
    have := h2 0 (by simpa using h0)
    simp only [List.getD_cons_zero, List.getD_cons_succ, Nat.zero_add] at this
    rw [← this, Nat.testBit_two_pow]
    simp

theorem row_of_path {l : List Tile} {nn : Option (List Int)} (hl : ∀ t ∈ l, colsB t = true) : ∀ (ts : List Tile) (x e : Nat), TPath l nn x e ts → ∃ r : List Nat, r.map (tl l) = ts ∧ (∀ i ∈ r, i < l.length) ∧ (∀ k, k + 1 < r.length → tE (tl l (r.getD k 0)) = tW (tl l (r.getD (k + 1) 0))) ∧ ∀ j, j < r.length → fitsN nn (x + j) (tl l (r.getD j 0)) = true
  | [], _, _, _ => ⟨[], rfl, by simp, by simp, by simp⟩
  | t :: ts, x, e, ⟨h1, h2, h3, h4⟩ => by
    obtain ⟨r, e1, r1, r2, r3⟩ := row_of_path hl ts _ _ h4
    obtain ⟨i, hi, hti⟩ := List.getElem_of_mem h1
    have hit : tl l i = t := by rw [tl, List.getD_eq_getElem?_getD, List.getElem?_eq_getElem hi, hti]; rfl
    refine ⟨i :: r, by rw [List.map_cons, e1, hit], fun j hj => ?_, fun k hk => ?_, fun j hj => ?_⟩
    · rcases List.mem_cons.1 hj with rfl | hj
      · exact hi
      · exact r1 j hj
    · cases k with
      | zero =>
        simp only [List.getD_cons_zero, List.getD_cons_succ, Nat.zero_add]
        rw [hit]
        cases hts : ts with
        | nil =>
          rw [hts] at e1
          have : r = [] := List.map_eq_nil_iff.1 e1
          rw [this] at hk
          simp at hk
        | cons u us =>
          rw [hts] at e1 h4
          obtain ⟨hu, _, hb, _⟩ := h4
          have e0 : tl l (r.getD 0 0) = u := by
            cases r with
            | nil => simp at e1
            | cons q r => simp at e1; simpa using e1.1
          rw [e0]
          rw [Nat.testBit_two_pow, decide_eq_true_eq] at hb
          have := cols_range (hl t h1)
          have := cols_range (hl u hu)
          omega
      | succ k =>
        simp only [List.getD_cons_succ]
        exact r2 k (by simpa using hk)
    · cases j with
      | zero => simpa [hit] using h2
      | succ j =>
        have := r3 j (by simpa using hj)
        rw [show x + (j + 1) = x + 1 + j by omega]
        simpa using this

/-- The lists of Souths of the rows under some Norths. -/
theorem mem_under {l : List Tile} (hl : ∀ t ∈ l, colsB t = true) {n s : List Int} : s ∈ rfrom l (some n) n.length [] 255 ↔ ∃ r ∈ rowsL l n.length, norths l r = n ∧ souths l r = s := by
  rw [mem_rfrom hl]
  constructor
  · rintro ⟨ts, h1, h2, rfl⟩
    obtain ⟨r, rfl, r1, r2, r3⟩ := row_of_path hl ts _ _ h2
    rw [List.length_map] at h1
    refine ⟨r, mem_rowsL.2 ⟨h1, r1, r2⟩, ?_, by simp [souths]⟩
    refine List.ext_getElem (by simp [norths, h1]) fun j hj hj' => ?_
    have hjr : j < r.length := by simpa [norths] using hj
    have := r3 j hjr
    simp only [fitsN, decide_eq_true_eq, List.length_nil, Nat.zero_add] at this
    simp only [norths, List.getElem_map]
    rw [List.getD_eq_getElem?_getD, List.getElem?_eq_getElem hjr, Option.getD_some, List.getD_eq_getElem?_getD, List.getElem?_eq_getElem hj', Option.getD_some] at this
    exact this
  · rintro ⟨r, hr, rfl, rfl⟩
    obtain ⟨h1, r1, r2⟩ := mem_rowsL.1 hr
    have hlen : (norths l r).length = r.length := by simp [norths]
    refine ⟨r.map (tl l), by simp [hlen], path_of_row hl r _ _ r1 r2 (fun h0 => ?_) (fun j hj => ?_), by simp [souths]⟩
    · have hi : r.getD 0 0 < l.length := r1 _ (getD_mem h0)
      have := cols_range (hl (tl l (r.getD 0 0)) (by unfold tl; exact getD_mem hi))
      generalize tW (tl l (r.getD 0 0)) = c at *
      have : c.toNat = 0 ∨ c.toNat = 1 ∨ c.toNat = 2 ∨ c.toNat = 3 ∨ c.toNat = 4 ∨ c.toNat = 5 ∨ c.toNat = 6 ∨ c.toNat = 7 := by omega
      rcases this with h | h | h | h | h | h | h | h <;> rw [h] <;> decide
    · simp only [fitsN, decide_eq_true_eq, List.length_nil, Nat.zero_add]
      simp [norths, List.getD_eq_getElem?_getD, hj]

/-- The lists of Souths of all rows. -/
theorem mem_firsts {l : List Tile} (hl : ∀ t ∈ l, colsB t = true) {w : Nat} {s : List Int} : s ∈ rfrom l none w [] 255 ↔ ∃ r ∈ rowsL l w, souths l r = s := by
  rw [mem_rfrom hl]
  constructor
  · rintro ⟨ts, h1, h2, rfl⟩
    obtain ⟨r, rfl, r1, r2, _⟩ := row_of_path hl ts _ _ h2
    rw [List.length_map] at h1
    exact ⟨r, mem_rowsL.2 ⟨h1, r1, r2⟩, by simp [souths]⟩
  · rintro ⟨r, hr, rfl⟩
    obtain ⟨h1, r1, r2⟩ := mem_rowsL.1 hr
    refine ⟨r.map (tl l), by simp [h1], path_of_row hl r _ _ r1 r2 (fun h0 => ?_) (fun j hj => rfl), by simp [souths]⟩
    have hi : r.getD 0 0 < l.length := r1 _ (getD_mem h0)
    have := cols_range (hl (tl l (r.getD 0 0)) (by unfold tl; exact getD_mem hi))
    generalize tW (tl l (r.getD 0 0)) = c at *
    have : c.toNat = 0 ∨ c.toNat = 1 ∨ c.toNat = 2 ∨ c.toNat = 3 ∨ c.toNat = 4 ∨ c.toNat = 5 ∨ c.toNat = 6 ∨ c.toNat = 7 := by omega
    rcases this with h | h | h | h | h | h | h | h <;> rw [h] <;> decide

theorem code_cons (x : Int) (c : List Int) : code (x :: c) = x * 8 ^ c.length + code c := by
  have key : ∀ (c : List Int) (n : Int), c.foldl (fun n x => n * 8 + x) n = n * 8 ^ c.length + code c := by
    intro c
    induction c with
    | nil => intro n; simp [code]
    | cons y c ih =>
      intro n
      rw [List.foldl_cons, ih]
      have := ih (0 * 8 + y)
      simp only [code, List.foldl_cons] at this ⊢
      rw [this, List.length_cons, Int.pow_succ]
      rw [Int.add_mul, Int.zero_mul, Int.zero_add, Int.mul_assoc n 8, Int.mul_comm 8, Int.add_assoc]
  have := key c x
  simp only [code, List.foldl_cons, Int.zero_mul, Int.zero_add]
  exact this
theorem code_inj : ∀ {a b : List Int}, a.length = b.length → (∀ x ∈ a, 0 ≤ x ∧ x ≤ 7) → (∀ x ∈ b, 0 ≤ x ∧ x ≤ 7) → code a = code b → a = b
  | [], [], _, _, _, _ => rfl
  | [], _ :: _, h, _, _, _ => by simp at h
  | _ :: _, [], h, _, _, _ => by simp at h
  | x :: a, y :: b, h, ha, hb, he => by
    have hl : a.length = b.length := by simpa using h
    have ha' : ∀ z ∈ a, 0 ≤ z ∧ z ≤ 7 := fun z hz => ha z (by simp [hz])
    have hb' : ∀ z ∈ b, 0 ≤ z ∧ z ≤ 7 := fun z hz => hb z (by simp [hz])
    have c1 := code_bound ha'
    have c2 := code_bound hb'
    rw [code_cons, code_cons, hl] at he
    rw [hl] at c1
    have hp : (0 : Int) < 8 ^ b.length := Int.pow_pos (by omega)
    have hxy : x = y := by
      have e1 : (x * 8 ^ b.length + code a) / 8 ^ b.length = x := by
        rw [Int.add_comm, Int.add_mul_ediv_right _ _ (by omega), Int.ediv_eq_zero_of_lt c1.1 c1.2]; omega
      have e2 : (y * 8 ^ b.length + code b) / 8 ^ b.length = y := by
        rw [Int.add_comm, Int.add_mul_ediv_right _ _ (by omega), Int.ediv_eq_zero_of_lt c2.1 c2.2]; omega
      rw [he, e2] at e1
      exact e1.symm
    subst hxy
    rw [code_inj hl ha' hb' (by omega)]

end Go.Wg

/- Lifting of code to plain statements, part 1: what an operation asks, as a proposition over the values of its operands; and that it is enough. -/
namespace Go.Lf
open Go.RowKit

abbrev Fr := Nat → Value

def evO (fr : Fr) : Operand → Value
  | .tmp t => fr t
  | .const v => v
  | .global g => .pointer (some ⟨g, 0, none⟩)
  | .func f => .func (.func f) #[] #[]

def isLit : Operand → Bool
  | .const _ => true
  | _ => false

/-- In every world that w grows into, s gives v and leaves the world alone. -/
def Yld (P : Program) (w : World) (s : Sem Next) (v : Value) : Prop := ∀ w', Below w.heap.size w w' → s.run P w' = .ok (.value v) w'

def genQ (P : Program) (w : World) (s : Sem Next) (K : Value → Prop) : Prop := ∃ v, Yld P w s v ∧ K v

def semW (P : Program) (s : Sem Next) (w : World) (K : Value → World → Prop) : Prop :=
  match s.run P w with
  | .ok (.value v) w' => K v w'
  | .ok .skip w' => K undef w'
  | .ok (.enter f args) w' => Calls P f args w' fun e w'' => ∃ v, e = .returned v ∧ K v w''
  | _ => False

/-! ### quiet operations -/

def pickQ (c a b : Value) (K : Value → Prop) : Prop :=
  match c with
  | .bool t => K (if t then a else b)
  | _ => False

/-- What a binary operation gives on two integers of one kind. -/
def intBin (op : BinOp) (k : IntKind) (x y : Int) : Option Value :=
  match op with
  | .add => some (.int k (k.wrap (x + y)))
  | .sub => some (.int k (k.wrap (x - y)))
  | .mul => some (.int k (k.wrap (x * y)))
  | .quo => if y = 0 then none else some (.int k (k.wrap (x.tdiv y)))
  | .rem => if y = 0 then none else some (.int k (x.tmod y))
  | .eql => some (.bool (decide (x = y)))
  | .neq => some (.bool (!decide (x = y)))
  | .lss => some (.bool (decide (x < y)))
  | .leq => some (.bool (decide (x ≤ y)))
  | .gtr => some (.bool (decide (y < x)))
  | .geq => some (.bool (decide (y ≤ x)))
  | _ => none

def semBin (op : BinOp) (t : TypeId) (lit : Bool) (a b : Value) : Sem Next := do
  pure (.value (← (do eqGuard op t (if lit then .const undef else .tmp 0) (.tmp 0) a b; binOp op t a b)))

def binQ (P : Program) (w : World) (op : BinOp) (t : TypeId) (lit : Bool) (a b : Value) (K : Value → Prop) : Prop :=
  match a, b with
  | .int k x, .int k' y =>
    if k = k' then
      match intBin op k x y with
      | some v => K v
      | none => genQ P w (semBin op t lit (.int k x) (.int k' y)) K
    else genQ P w (semBin op t lit (.int k x) (.int k' y)) K
  | a, b => genQ P w (semBin op t lit a b) K

def unQ (op : UnOp) (x : Value) (K : Value → Prop) : Prop :=
  match op, x with
  | .neg, .int k n => K (.int k (k.wrap (0 - n)))
  | .not, .bool b => K (.bool (!b))
  | _, _ => False

def cv1 (k : IntKind) (x : Value) (K : Value → Prop) : Prop :=
  match x with
  | .int _ n => K (.int k (k.wrap n))
  | _ => False

def cvQ (P : Program) (s d : TypeId) (x : Value) (K : Value → Prop) : Prop :=
  match P.underlying s, P.underlying d with
  | some _, some (.int k) => cv1 k x K
  | _, _ => False

/-- n cells from a on. -/
def cellsAt (w : World) (a : Addr) : Nat → Nat → Option (List Value)
  | 0, _ => some []
  | n + 1, i => match w.cell? (a.add i), cellsAt w a n (i + 1) with
    | some v, some vs => some (v :: vs)
    | _, _ => none

def aggSize (P : Program) (t : TypeId) : Option (Option Nat) :=
  match P.info? t with
  | none => none
  | some i => match P.underlying t with
    | none => none
    | some (.struct _) => some (some i.size)
    | some (.array _ _) => some (some i.size)
    | some _ => some none

def ld1 (w : World) (p : Value) (K : Value → Prop) : Prop :=
  match p with
  | .pointer (some a) => match w.cell? a with
    | some v => K v
    | none => False
  | _ => False

def ldN (n : Nat) (w : World) (p : Value) (K : Value → Prop) : Prop :=
  match p with
  | .pointer (some a) => match cellsAt w a n 0 with
    | some vs => K (.agg vs.toArray)
    | none => False
  | _ => False

def ldQ (P : Program) (t : TypeId) (w : World) (p : Value) (K : Value → Prop) : Prop :=
  match aggSize P t with
  | some none => ld1 w p K
  | some (some n) => ldN n w p K
  | none => False

def fa1 (x : Value) (off : Nat) (K : Value → Prop) : Prop :=
  match x with
  | .pointer (some a) => K (.pointer (some (a.add off)))
  | _ => False

def faQ (P : Program) (s : TypeId) (x : Value) (f : Nat) (K : Value → Prop) : Prop :=
  match P.underlying s with
  | some (.struct fields) => match fields[f]? with
    | some fd => match P.info? fd.type with
      | some i => if i.size = 0 then False else fa1 x fd.offset K
      | none => False
    | none => False
  | _ => False

def iaS (sz : Nat) (x i : Value) (K : Value → Prop) : Prop :=
  match x, i with
  | .slice (some a) n _, .int _ i => 0 ≤ i ∧ i < n ∧ K (.pointer (some (a.add (i.toNat * sz))))
  | _, _ => False

def iaA (n sz : Nat) (x i : Value) (K : Value → Prop) : Prop :=
  match x, i with
  | .pointer (some a), .int _ i => 0 ≤ i ∧ i < n ∧ K (.pointer (some (a.add (i.toNat * sz))))
  | _, _ => False

def iaQ (P : Program) (t : TypeId) (x i : Value) (K : Value → Prop) : Prop :=
  match P.underlying t with
  | some (.slice e) => match P.info? e with
    | some j => iaS j.size x i K
    | none => False
  | some (.array n e) => match P.info? e with
    | some j => iaA n j.size x i K
    | none => False
  | _ => False

/-- One bound of a cut (none: the default). -/
def bnd (d cap : Nat) : Option Value → Option Nat
  | none => some d
  | some (.int _ i) => if 0 ≤ i ∧ i ≤ cap then some i.toNat else none
  | some _ => none

/-- The bounds of a cut: low and high, if they are in range. -/
def cutQ (len cap : Nat) (l h : Option Value) (K : Nat → Nat → Prop) : Prop :=
  match bnd len cap h with
  | none => False
  | some hi =>
    match bnd 0 hi l with
    | none => False
    | some lo => K lo hi

def slS (sz : Nat) (x : Value) (l h : Option Value) (K : Value → Prop) : Prop :=
  match x with
  | .slice a n c => cutQ n c l h fun lo hi => K (.slice (if c = lo then a else a.map (·.add (lo * sz))) (hi - lo) (c - lo))
  | _ => False

def slA (n sz : Nat) (x : Value) (l h : Option Value) (K : Value → Prop) : Prop :=
  match x with
  | .pointer (some a) => cutQ n n l h fun lo hi => K (.slice (some (if n = lo then a else a.add (lo * sz))) (hi - lo) (n - lo))
  | _ => False

def slQ (P : Program) (t : TypeId) (x : Value) (l h : Option Value) (K : Value → Prop) : Prop :=
  match P.underlying t with
  | some (.slice e) => match P.info? e with
    | some j => slS j.size x l h K
    | none => False
  | some (.array n e) => match P.info? e with
    | some j => slA n j.size x l h K
    | none => False
  | _ => False

def exQ (x : Value) (i : Nat) (K : Value → Prop) : Prop :=
  match x with
  | .tuple vs => match vs[i]? with
    | some v => K v
    | none => False
  | _ => False

def fieldPlaces (P : Program) : List Field → Option (List (Nat × Nat))
  | [] => some []
  | f :: fs => match P.info? f.type, fieldPlaces P fs with
    | some i, some r => some ((f.offset, i.size) :: r)
    | _, _ => none

def buildV (P : Program) (t : TypeId) (parts : List (Nat × Value)) : Option Value :=
  match P.info? t with
  | some i => match i.zero, P.underlying t with
    | some z, some (.struct fields) => match fieldPlaces P fields.toList with
      | some ps => (Instr.fill (ps[·]?) z.cells parts).map .agg
      | none => none
    | some z, some (.array _ e) => match P.info? e with
      | some j => (Instr.fill (fun i => some (i * j.size, j.size)) z.cells parts).map .agg
      | none => none
    | _, _ => none
  | none => none

def bdQ (P : Program) (t : TypeId) (parts : List (Nat × Value)) (K : Value → Prop) : Prop :=
  match buildV P t parts with
  | some v => K v
  | none => False

def ln1 (x : Value) (K : Value → Prop) : Prop :=
  match x with
  | .slice _ n _ => K (.int .i64 n)
  | _ => False

def lnQ (P : Program) (t : TypeId) (x : Value) (K : Value → Prop) : Prop :=
  match P.underlying t with
  | some (.slice _) => ln1 x K
  | _ => False

def allInts (k : IntKind) : List Value → Option (List Int)
  | [] => some []
  | .int k' n :: r => if k = k' then (allInts k r).map (n :: ·) else none
  | _ :: _ => none

/-- min, max of integers. -/
def mnQ (isMax : Bool) (xs : List Value) (K : Value → Prop) : Prop :=
  match xs with
  | .int k n :: r => match allInts k r with
    | some l => K (.int k (l.foldl (fun a b => if isMax then (if a < b then b else a) else (if b < a then b else a)) n))
    | none => False
  | _ => False

def ncQ (x : Value) (K : Value → Prop) : Prop :=
  match x with
  | .pointer (some a) => K (.pointer (some a))
  | .func (.func f) a b => K (.func (.func f) a b)
  | _ => False

def lkS (t : TypeId) (m k : Value) (ok : Bool) : Sem Next := do pure (.value (← Instr.lookup t m k ok))

def isQ : Op → Bool
  | .move _ | .assign _ | .pick .. | .binOp .. | .unOp .. | .convert .. | .load .. | .fieldAddr .. | .indexAddr .. | .slice _ _ _ _ none | .extract .. | .build ..
  | .nilCheck _ | .makeFunc .. => true
  | .call c => match c.callee with
    | .builtin .len | .builtin .min | .builtin .max => true
    | _ => false
  | _ => false

def callQ (P : Program) (c : Call) (ρ : Operand → Value) (K : Value → Prop) : Prop :=
  match c.callee with
  | .builtin .len => match c.args.toList, c.argTypes.toList with
    | [x], [t] => lnQ P t (ρ x) K
    | _, _ => False
  | .builtin .min => mnQ false (c.args.toList.map ρ) K
  | .builtin .max => mnQ true (c.args.toList.map ρ) K
  | _ => False

def opQ (P : Program) (o : Op) (ρ : Operand → Value) (w : World) (K : Value → Prop) : Prop :=
  match o with
  | .move x | .assign x => K (ρ x)
  | .pick c a b => pickQ (ρ c) (ρ a) (ρ b) K
  | .binOp op t x y _ => binQ P w op t (isLit x || isLit y) (ρ x) (ρ y) K
  | .unOp op _ x => unQ op (ρ x) K
  | .convert s d x => cvQ P s d (ρ x) K
  | .load t x => ldQ P t w (ρ x) K
  | .fieldAddr s x f => faQ P s (ρ x) f K
  | .indexAddr t x i => iaQ P t (ρ x) (ρ i) K
  | .slice t x l h none => slQ P t (ρ x) (l.map ρ) (h.map ρ) K
  | .extract x i => exQ (ρ x) i K
  | .build t parts => bdQ P t (parts.toList.map fun p => (p.1, ρ p.2)) K
  | .nilCheck x => ncQ (ρ x) K
  | .makeFunc fn first cap => K (.func fn (first.toList.map ρ).toArray (cap.toList.map ρ).toArray)
  | .call c => callQ P c ρ K
  | .lookup t m k ok => genQ P w (lkS t (ρ m) (ρ k) ok) K
  | _ => False

/-! ### soundness -/

section
variable {P : Program} {w : World} {K : Value → Prop}

theorem yld_pure {v : Value} : Yld P w (pure (.value v)) v := fun _ _ => rfl

theorem cell_stays {w w' : World} {a : Addr} {v : Value} (hb : Below w.heap.size w w') (h : w.cell? a = some v) : w'.cell? a = some v :=
  (hb.cell (World.block_lt_of_cell? w a h)).trans h

theorem eqGuard_lit (op : BinOp) (t : TypeId) (x y : Operand) (a b : Value) :
    eqGuard op t (if isLit x || isLit y then .const undef else .tmp 0) (.tmp 0) a b = eqGuard op t x y a b := by
  unfold eqGuard
  cases x <;> cases y <;> simp [isLit]

theorem semBin_eq (op : BinOp) (t : TypeId) (x y : Operand) (a b : Value) :
    semBin op t (isLit x || isLit y) a b = (do pure (.value (← (do eqGuard op t x y a b; binOp op t a b))) : Sem Next) := by
  unfold semBin
  rw [eqGuard_lit]

theorem eqGuard_int (op : BinOp) (t : TypeId) (x y : Operand) (k k' : IntKind) (a b : Int) : (eqGuard op t x y (.int k a) (.int k' b)).run P w = .ok () w := by
  unfold eqGuard
  cases op <;> simp

theorem intBin_run (op : BinOp) (t : TypeId) (k : IntKind) (x y : Int) (v : Value) (h : intBin op k x y = some v) : (binOp op t (.int k x) (.int k y)).run P w = .ok v w := by
  cases op <;> simp only [intBin, Option.some.injEq, reduceCtorEq] at h
  all_goals try (subst h; simp [binOp, Op.intArith, Op.intCmp]; try rfl)
  all_goals try (split at h <;> simp only [Option.some.injEq, reduceCtorEq] at h; subst h; simp [binOp, Op.intDiv, *])

theorem run_binOp {op : BinOp} {t : TypeId} {lit : Bool} {k : IntKind} {x y : Int} {v : Value} (h : intBin op k x y = some v) : Yld P w (semBin op t lit (.int k x) (.int k y)) v := by
  intro w' _
  simp [semBin, eqGuard_int, intBin_run (P := P) (w := w') op t k x y v h]

theorem binQ_yld {op : BinOp} {t : TypeId} {lit : Bool} {a b : Value} (h : binQ P w op t lit a b K) : genQ P w (semBin op t lit a b) K := by
  unfold binQ at h
  split at h
  · rename_i k x k' y
    split at h
    · rename_i hk
      subst hk
      split at h
      · rename_i v hv
        exact ⟨v, run_binOp hv, h⟩
      · exact h
    · exact h
  · exact h

theorem unQ_yld {op : UnOp} {x : Value} (h : unQ op x K) : genQ P w (do pure (.value (← Op.unary op x))) K := by
  unfold unQ at h
  split at h
  · exact ⟨_, fun w' _ => by simp [Op.unary, Op.intArith], h⟩
  · exact ⟨_, fun w' _ => by simp [Op.unary], h⟩
  · exact h.elim

theorem run_underlying' {w' : World} {t : TypeId} {d : TypeDesc} (h : P.underlying t = some d) : (underlying t).run P w' = .ok d w' := by
  simp [underlying, h]

theorem run_typeInfo' {w' : World} {t : TypeId} {i : TypeInfo} (h : P.info? t = some i) : (typeInfo t).run P w' = .ok i w' := by
  simp [typeInfo, h]

theorem run_sizeOf' {w' : World} {t : TypeId} {i : TypeInfo} (h : P.info? t = some i) : (sizeOf t).run P w' = .ok i.size w' := by
  simp [sizeOf, typeInfo, h]

theorem cvQ_yld {s d : TypeId} {x : Value} (h : cvQ P s d x K) : genQ P w (do pure (.value (← convert s d x))) K := by
  unfold cvQ at h
  split at h
  · rename_i ds k hs hd
    unfold cv1 at h
    split at h
    · refine ⟨_, fun w' _ => ?_, h⟩
      simp [convert, run_underlying' hs, run_underlying' hd, Conv.intToInt]
    · exact h.elim
  · exact h.elim

theorem cellsAt_run {P : Program} {w : World} {a : Addr} : ∀ (n i : Nat) (vs : List Value) (acc : Array Value) (w' : World), Below w.heap.size w w' → cellsAt w a n i = some vs →
    (loadCellsFrom a i n acc).run P w' = .ok (acc ++ vs.toArray) w'
  | 0, i, vs, acc, w', _, h => by
    simp [cellsAt] at h
    subst h
    simp [loadCellsFrom]
  | n + 1, i, vs, acc, w', hb, h => by
    simp only [cellsAt] at h
    split at h
    · rename_i v vs' h1 h2
      simp only [Option.some.injEq] at h
      subst h
      have hc := cell_stays hb h1
      have ih := cellsAt_run (P := P) (w := w) (a := a) n (i + 1) vs' (acc.push v) w' hb h2
      simp [loadCellsFrom, hc, ih]
    · cases h

theorem ldQ_yld {t : TypeId} {p : Value} (h : ldQ P t w p K) : genQ P w (do pure (.value (← Instr.loadAt t p))) K := by
  unfold ldQ at h
  split at h
  · rename_i hs
    unfold ld1 at h
    split at h
    · rename_i a
      split at h
      · rename_i v hv
        refine ⟨v, fun w' hb => ?_, h⟩
        have hc := cell_stays hb hv
        unfold aggSize at hs
        have hagg : (isAgg t).run P w' = .ok false w' := by
          split at hs
          · cases hs
          · rename_i i hi
            cases hu : P.underlying t with
            | none => simp [hu] at hs
            | some d => cases d <;> simp [hu] at hs <;> simp [isAgg, underlying, hu]
        simp [Instr.loadAt, Instr.sureAddr, loadVar, hagg, hc]
      · exact h.elim
    · exact h.elim
  · rename_i n hs
    unfold ldN at h
    split at h
    · rename_i a
      split at h
      · rename_i vs hv
        refine ⟨.agg vs.toArray, fun w' hb => ?_, h⟩
        unfold aggSize at hs
        have hagg : (isAgg t).run P w' = .ok true w' ∧ (sizeOf t).run P w' = .ok n w' := by
          split at hs
          · cases hs
          · rename_i i hi
            cases hu : P.underlying t with
            | none => simp [hu] at hs
            | some d => cases d <;> simp [hu] at hs <;> simp [isAgg, underlying, hu, sizeOf, typeInfo, hi, hs]
        have hc := cellsAt_run (P := P) n 0 vs #[] w' hb hv
        simp only [Array.empty_append] at hc
        have hl : (loadCells a n).run P w' = .ok vs.toArray w' := hc
        simp [Instr.loadAt, Instr.sureAddr, loadVar, hagg.1, hagg.2, hl]
      · exact h.elim
    · exact h.elim
  · exact h.elim

theorem faQ_yld {s : TypeId} {x : Value} {f : Nat} (h : faQ P s x f K) : genQ P w (do pure (.value (← Instr.fieldAt s x f))) K := by
  unfold faQ at h
  split at h
  · rename_i fields hu
    split at h
    · rename_i fd hfd
      split at h
      · rename_i i hi
        split at h
        · exact h.elim
        · rename_i hne
          unfold fa1 at h
          split at h
          · rename_i a
            refine ⟨_, fun w' _ => ?_, h⟩
            simp [Instr.fieldAt, run_underlying' hu, hfd, Instr.sureAddr, fieldPlace, run_sizeOf' hi, hne]
          · exact h.elim
      · exact h.elim
    · exact h.elim
  · exact h.elim

theorem iaQ_yld {t : TypeId} {x i : Value} (h : iaQ P t x i K) : genQ P w (do pure (.value (← Instr.indexAt t x i))) K := by
  unfold iaQ at h
  split at h
  · rename_i e hu
    split at h
    · rename_i j hj
      unfold iaS at h
      split at h
      · obtain ⟨h0, h1, h2⟩ := h
        refine ⟨_, fun w' _ => ?_, h2⟩
        simp [Instr.indexAt, asIntOf, run_underlying' hu, h0, h1, run_sizeOf' hj]
      · exact h.elim
    · exact h.elim
  · rename_i n e hu
    split at h
    · rename_i j hj
      unfold iaA at h
      split at h
      · obtain ⟨h0, h1, h2⟩ := h
        refine ⟨_, fun w' _ => ?_, h2⟩
        simp [Instr.indexAt, asIntOf, run_underlying' hu, h0, h1, run_sizeOf' hj, Instr.sureAddr]
      · exact h.elim
    · exact h.elim
  · exact h.elim

theorem bnd_run {d cap r : Nat} {x : Option Value} (h : bnd d cap x = some r) : (x = none ∧ r = d) ∨ ∃ v, x = some v ∧ ∀ (c : BoundsCode) (w' : World), (Instr.sliceBound v cap c).run P w' = .ok r w' := by
  cases x with
  | none => simp [bnd] at h; exact .inl ⟨rfl, h.symm⟩
  | some v =>
    cases v <;> simp only [bnd, reduceCtorEq] at h
    split at h
    · rename_i k i hc
      simp only [Option.some.injEq] at h
      subst h
      exact .inr ⟨_, rfl, fun c w' => by simp [Instr.sliceBound, asIntOf, hc]⟩
    · cases h

theorem cutQ_run {isS : Bool} {len cap : Nat} {l h : Option Value} {K : Nat → Nat → Prop} (hh : cutQ len cap l h K) :
    ∃ lo hi, K lo hi ∧ ∀ w' : World, (Instr.sliceBounds isS len cap l h none).run P w' = .ok (lo, hi, cap) w' := by
  unfold cutQ at hh
  split at hh
  · exact hh.elim
  · rename_i hi hhi
    split at hh
    · exact hh.elim
    · rename_i lo hlo
      refine ⟨lo, hi, hh, fun w' => ?_⟩
      rcases bnd_run (P := P) hhi with ⟨rfl, rfl⟩ | ⟨v, rfl, h1⟩ <;> rcases bnd_run (P := P) hlo with ⟨rfl, rfl⟩ | ⟨u, rfl, h2⟩ <;> simp [Instr.sliceBounds, *]

theorem slQ_yld {t : TypeId} {x : Value} {l h : Option Value} (hh : slQ P t x l h K) : genQ P w (do pure (.value (← Instr.sliceAt t x l h none))) K := by
  unfold slQ at hh
  split at hh
  · rename_i e hu
    split at hh
    · rename_i j hj
      unfold slS at hh
      split at hh
      · obtain ⟨lo, hi, hk, hr⟩ := cutQ_run (P := P) (isS := true) hh
        refine ⟨_, fun w' _ => ?_, hk⟩
        simp [Instr.sliceAt, run_underlying' hu, Instr.slice, hr w', run_sizeOf' hj]
      · exact hh.elim
    · exact hh.elim
  · rename_i n e hu
    split at hh
    · rename_i j hj
      unfold slA at hh
      split at hh
      · obtain ⟨lo, hi, hk, hr⟩ := cutQ_run (P := P) (isS := false) hh
        refine ⟨_, fun w' _ => ?_, hk⟩
        simp [Instr.sliceAt, run_underlying' hu, Instr.sureAddr, hr w', run_sizeOf' hj]
      · exact hh.elim
    · exact hh.elim
  · exact hh.elim

theorem exQ_yld {x : Value} {i : Nat} (h : exQ x i K) : genQ P w (do pure (.value (← Instr.extract x i))) K := by
  unfold exQ at h
  split at h
  · split at h
    · rename_i vs v hv
      exact ⟨v, fun w' _ => by simp [Instr.extract, hv], h⟩
    · exact h.elim
  · exact h.elim

theorem fieldPlaces_run {w' : World} : ∀ (fs : List Field) (ps : List (Nat × Nat)), fieldPlaces P fs = some ps →
    (fs.mapM (fun f => Prod.mk f.offset <$> sizeOf f.type) : Sem (List (Nat × Nat))).run P w' = .ok ps w'
  | [], ps, h => by simp [fieldPlaces] at h; subst h; simp
  | f :: fs, ps, h => by
    simp only [fieldPlaces] at h
    split at h
    · rename_i i r hi hr
      simp only [Option.some.injEq] at h
      subst h
      have ih := fieldPlaces_run (w' := w') fs r hr
      simp [List.mapM_cons, run_sizeOf' hi, ih]
    · cases h

theorem buildV_yld {t : TypeId} {parts : List (Nat × Value)} {v : Value} (h : buildV P t parts = some v) : ∀ w' : World, (Instr.build t parts.toArray).run P w' = .ok v w' := by
  intro w'
  unfold buildV at h
  split at h
  · rename_i i hi
    split at h
    · rename_i z fields hz hu
      split at h
      · rename_i ps hps
        have hf := fieldPlaces_run (w' := w') _ _ hps
        cases hfl : Instr.fill (ps[·]?) z.cells parts with
        | none => simp [hfl] at h
        | some cells =>
          simp [hfl] at h
          subst h
          have hzv : (zeroValue t).run P w' = .ok z w' := by simp [zeroValue, typeInfo, hi, hz]
          have hm : (fields.mapM (fun f => Prod.mk f.offset <$> sizeOf f.type) : Sem (Array (Nat × Nat))).run P w' = .ok ps.toArray w' := by
            rw [Array.mapM_eq_mapM_toList]
            simp [hf]
          simp [Instr.build, hzv, run_underlying' hu, hm, hfl]
      · cases h
    · rename_i z n e hz hu
      split at h
      · rename_i j hj
        cases hfl : Instr.fill (fun i => some (i * j.size, j.size)) z.cells parts with
        | none => simp [hfl] at h
        | some cells =>
          simp [hfl] at h
          subst h
          have hzv : (zeroValue t).run P w' = .ok z w' := by simp [zeroValue, typeInfo, hi, hz]
          simp [Instr.build, hzv, run_underlying' hu, run_sizeOf' hj, hfl]
      · cases h
    · cases h
  · cases h

theorem allInts_eq : ∀ (k : IntKind) (xs : List Value) (l : List Int), allInts k xs = some l → xs = l.map (.int k)
  | k, [], l, h => by simp [allInts] at h; subst h; rfl
  | k, x :: xs, l, h => by
    cases x <;> simp only [allInts, reduceCtorEq] at h
    rename_i k' n
    split at h
    · rename_i hk
      subst hk
      cases hl : allInts k xs with
      | none => simp [hl] at h
      | some l' =>
        simp [hl] at h
        subst h
        simp [allInts_eq k xs l' hl]
    · cases h

theorem foldMin (isMax : Bool) (k : IntKind) : ∀ (l : List Int) (n : Int) (w' : World),
    ((l.map (Value.int k)).foldlM (if isMax then Builtin.max2 else Builtin.min2) (.int k n)).run P w' =
      .ok (.int k (l.foldl (fun a b => if isMax then (if a < b then b else a) else (if b < a then b else a)) n)) w'
  | [], n, w' => by simp
  | x :: l, n, w' => by
    have ih := foldMin isMax k l
    cases isMax <;> simp [List.foldlM_cons, Builtin.min2, Builtin.max2] <;> simp at * <;> first | exact ih _ _ | skip

theorem genQ_mono {s s' : Sem Next} (h : genQ P w s K) (e : s = s') : genQ P w s' K := e ▸ h

theorem mnQ_yld {isMax : Bool} {xs : List Value} (h : mnQ isMax xs K) :
    genQ P w (do pure (.value (← if isMax then Builtin.max_ #[] 0 xs.toArray else Builtin.min_ #[] 0 xs.toArray))) K := by
  unfold mnQ at h
  split at h
  · rename_i k n r
    split at h
    · rename_i l hl
      have e := allInts_eq _ _ _ hl
      subst e
      refine ⟨_, fun w' _ => ?_, h⟩
      have hf := foldMin (P := P) isMax k l n w'
      cases isMax
      · simp only [Bool.false_eq_true, if_false] at hf ⊢
        simp only [Builtin.min_, Sem.run_bind, hf, Result.andThen_ok, Sem.run_pure]
      · simp only [if_true] at hf ⊢
        simp only [Builtin.max_, Sem.run_bind, hf, Result.andThen_ok, Sem.run_pure]
    · exact h.elim
  · exact h.elim

/-- A builtin's call, carried out on values. -/
theorem execOp_builtin (ρ : Operand → Value) (o : Oper) (b : Builtin) (args : Array Operand) (argTypes : Array TypeId) (ho : o.op = .call { callee := .builtin b, args, argTypes }) :
    execOp ρ o = builtin b argTypes o.type (args.map fun | .const _ => true | _ => false) (args.map ρ) := by
  unfold execOp
  simp only [ho, resolve]
  rfl

theorem lnQ_yld {t : TypeId} {x : Value} {ty : TypeId} (h : lnQ P t x K) : genQ P w (do pure (.value (← Builtin.len_ #[t] ty #[x]))) K := by
  unfold lnQ at h
  split at h
  · rename_i e hu
    unfold ln1 at h
    split at h
    · exact ⟨_, fun w' _ => by simp [Builtin.len_, run_underlying' hu, goInt], h⟩
    · exact h.elim
  · exact h.elim

theorem callQ_yld {o : Oper} {c : Call} {ρ : Operand → Value} (ho : o.op = .call c) (h : callQ P c ρ K) : genQ P w (execOp ρ o) K := by
  obtain ⟨callee, args, argTypes⟩ := c
  unfold callQ at h
  split at h
  · rename_i hc
    simp only at hc
    subst hc
    rw [execOp_builtin ρ _ _ args argTypes ho]
    split at h
    · rename_i x t ha ht
      simp only at ha ht
      have ha' : args = #[x] := by rw [← Array.toArray_toList (xs := args), ha]
      have ht' : argTypes = #[t] := by rw [← Array.toArray_toList (xs := argTypes), ht]
      subst ha' ht'
      refine genQ_mono (lnQ_yld (w := w) (ty := o.type) h) ?_
      simp [builtin]
    · exact h.elim
  · rename_i hc
    simp only at hc
    subst hc
    rw [execOp_builtin ρ _ _ args argTypes ho]
    have := mnQ_yld (w := w) (P := P) h
    obtain ⟨v, hy, hk⟩ := this
    refine ⟨v, fun w' hb => ?_, hk⟩
    have := hy w' hb
    simpa [builtin, Builtin.min_] using this
  · rename_i hc
    simp only at hc
    subst hc
    rw [execOp_builtin ρ _ _ args argTypes ho]
    have := mnQ_yld (w := w) (P := P) h
    obtain ⟨v, hy, hk⟩ := this
    refine ⟨v, fun w' hb => ?_, hk⟩
    have := hy w' hb
    simpa [builtin, Builtin.max_] using this
  · exact h.elim

theorem opQ_yld {o : Oper} {ρ : Operand → Value} (h : opQ P o.op ρ w K) : genQ P w (execOp ρ o) K := by
  cases ho : o.op with
  | call c => rw [ho] at h; exact callQ_yld ho h
  | move x => rw [ho] at h; exact ⟨_, fun w' _ => by simp [execOp, ho], h⟩
  | assign x => rw [ho] at h; exact ⟨_, fun w' _ => by simp [execOp, ho], h⟩
  | pick c a b =>
    rw [ho] at h
    simp only [opQ, pickQ] at h
    split at h
    · rename_i t hc
      exact ⟨_, fun w' _ => by simp [execOp, ho, hc, asBool], h⟩
    · exact h.elim
  | binOp op t x y yt =>
    rw [ho] at h
    refine genQ_mono (binQ_yld h) ?_
    rw [semBin_eq]
    unfold execOp
    simp [ho]
  | unOp op t x => rw [ho] at h; exact genQ_mono (unQ_yld h) (by simp [execOp, ho])
  | convert s d x => rw [ho] at h; exact genQ_mono (cvQ_yld h) (by simp [execOp, ho])
  | load t x => rw [ho] at h; exact genQ_mono (ldQ_yld h) (by simp [execOp, ho])
  | fieldAddr s x f => rw [ho] at h; exact genQ_mono (faQ_yld h) (by simp [execOp, ho])
  | indexAddr t x i => rw [ho] at h; exact genQ_mono (iaQ_yld h) (by simp [execOp, ho])
  | extract x i => rw [ho] at h; exact genQ_mono (exQ_yld h) (by simp [execOp, ho])
  | lookup t m k ok =>
    rw [ho] at h
    refine genQ_mono (s := lkS t (ρ m) (ρ k) ok) h ?_
    simp [execOp, ho, lkS]
  | makeFunc fn first cap =>
    rw [ho] at h
    exact ⟨.func fn (first.toList.map ρ).toArray (cap.toList.map ρ).toArray, fun w' _ => by
      simp only [execOp, ho, Instr.makeFunc, ← Array.toList_map, Array.toArray_toList]
      simp, h⟩
  | slice t x l hi m =>
    rw [ho] at h
    cases m with
    | some m => exact h.elim
    | none =>
      refine genQ_mono (slQ_yld (P := P) (w := w) h) ?_
      simp [execOp, ho]
  | build t parts =>
    rw [ho] at h
    simp only [opQ, bdQ] at h
    split at h
    · rename_i v hv
      refine ⟨v, fun w' _ => ?_, h⟩
      have hb := buildV_yld hv w'
      have e : (parts.toList.map fun p => (p.1, ρ p.2)).toArray = parts.map fun p => (p.1, ρ p.2) := by rw [← Array.toList_map, Array.toArray_toList]
      rw [e] at hb
      simp [execOp, ho, hb]
    · exact h.elim
  | nilCheck x =>
    rw [ho] at h
    simp only [opQ, ncQ] at h
    split at h
    · rename_i a hx
      exact ⟨_, fun w' _ => by simp [execOp, ho, hx], h⟩
    · rename_i f a b hx
      exact ⟨_, fun w' _ => by simp [execOp, ho, hx], h⟩
    · exact h.elim
  | _ => rw [ho] at h; exact h.elim

end
end Go.Lf
