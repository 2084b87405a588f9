/- Texts of my own, merged by program: T1 J1 E1. -/

/- Wang tiles, plainly: sets, rows of tiles, their colours as numbers. No program. -/
set_option linter.all false
namespace Go.Wg

/-- North, East, South, West. -/
abbrev Tile := Int × Int × Int × Int
abbrev tN (t : Tile) : Int := t.1
abbrev tE (t : Tile) : Int := t.2.1
abbrev tS (t : Tile) : Int := t.2.2.1
abbrev tW (t : Tile) : Int := t.2.2.2
abbrev t0 : Tile := (0, 0, 0, 0)

/-- The tile at a place of a set. -/
def tl (l : List Tile) (i : Nat) : Tile := l.getD i t0
theorem tl_get {l : List Tile} {i : Nat} (h : i < l.length) : l[i]? = some (tl l i) := by
  simp [tl, List.getD_eq_getElem?_getD, h]

def colB (n : Int) : Bool := decide (0 ≤ n ∧ n ≤ 7)
def colsB (t : Tile) : Bool := colB (tN t) && colB (tE t) && colB (tS t) && colB (tW t)
/-- Tiles from place i on are well coloured and none of them stands before. -/
def freshB (l : List Tile) : Bool := (List.range l.length).all fun i => colsB (tl l i) && !decide (tl l i ∈ l.take i)
def setB (l : List Tile) : Bool := decide (1 ≤ l.length ∧ l.length ≤ 16) && freshB l
def sideB (n : Int) : Bool := decide (1 ≤ n ∧ n ≤ 4)

structure IsSet (l : List Tile) : Prop where
  pos : 1 ≤ l.length
  most : l.length ≤ 16
  cols : ∀ t ∈ l, colsB t = true
  nodup : l.Nodup

theorem getD_mem {α : Type} {l : List α} {i : Nat} {d : α} (h : i < l.length) : l.getD i d ∈ l := by
  rw [List.getD_eq_getElem?_getD, List.getElem?_eq_getElem h]
  exact List.getElem_mem h

theorem nodup_take {α : Type} {d : α} : ∀ {l : List α}, (∀ i, i < l.length → l.getD i d ∉ l.take i) → l.Nodup := by
  intro l h
  rw [List.nodup_iff_pairwise_ne] at *
  rw [List.pairwise_iff_getElem]
  intro i j hi hj hij e
  refine h j hj ?_
  rw [List.getD_eq_getElem?_getD, List.getElem?_eq_getElem hj, Option.getD_some, ← e, List.mem_take_iff_getElem]
  exact ⟨i, by omega, rfl⟩

theorem isSet_of {l : List Tile} (h : setB l = true) : IsSet l := by
  simp only [setB, freshB, Bool.and_eq_true, decide_eq_true_eq, List.all_eq_true, List.mem_range, Bool.not_eq_true', decide_eq_false_iff_not] at h
  obtain ⟨⟨h1, h2⟩, h3⟩ := h
  refine ⟨h1, h2, fun t ht => ?_, nodup_take (d := t0) fun i hi => (h3 i hi).2⟩
  obtain ⟨i, hi, rfl⟩ := List.getElem_of_mem ht
  have := (h3 i hi).1
  rwa [tl, List.getD_eq_getElem?_getD, List.getElem?_eq_getElem hi] at this

theorem cols_range {t : Tile} (h : colsB t = true) : (0 ≤ tN t ∧ tN t ≤ 7) ∧ (0 ≤ tE t ∧ tE t ≤ 7) ∧ (0 ≤ tS t ∧ tS t ≤ 7) ∧ (0 ≤ tW t ∧ tW t ≤ 7) := by
  simp only [colsB, colB, Bool.and_eq_true, decide_eq_true_eq] at h
  exact ⟨h.1.1.1, h.1.1.2, h.1.2, h.2⟩

/-! ### rows -/

theorem tl_cols {l : List Tile} (hs : IsSet l) {i : Nat} (hi : i < l.length) : (0 ≤ tN (tl l i) ∧ tN (tl l i) ≤ 7) ∧ (0 ≤ tE (tl l i) ∧ tE (tl l i) ≤ 7) ∧ (0 ≤ tS (tl l i) ∧ tS (tl l i) ≤ 7) ∧ (0 ≤ tW (tl l i) ∧ tW (tl l i) ≤ 7) :=
  cols_range (hs.cols _ (by unfold tl; exact getD_mem hi))

/-- May tile i come behind the row r? -/
def fits (l : List Tile) (r : List Nat) (i : Nat) : Bool := decide (r = []) || decide (tE (tl l (r.getLastD 0)) = tW (tl l i))
/-- All rows that go on from r by n tiles. -/
def exts (l : List Tile) : Nat → List Nat → List (List Nat)
  | 0, r => [r]
  | n + 1, r => (List.range l.length).flatMap fun i => if fits l r i = true then exts l n (r ++ [i]) else []
def rowsL (l : List Tile) (w : Nat) : List (List Nat) := exts l w []

/-- Colours as a number to the base 8. -/
def code (c : List Int) : Int := c.foldl (fun n x => n * 8 + x) 0
theorem code_push (c : List Int) (x : Int) : code (c ++ [x]) = code c * 8 + x := by simp [code]
theorem code_nil : code [] = 0 := rfl
def norths (l : List Tile) (r : List Nat) : List Int := r.map fun i => tN (tl l i)
def souths (l : List Tile) (r : List Nat) : List Int := r.map fun i => tS (tl l i)

/-- A row's record: tiles (four of them, those behind the row are 0), North and South as numbers, whether it closes. -/
abbrev Line := List Int × Int × Int × Bool
def pad4 (r : List Nat) : List Int := (List.range 4).map fun k => ((r.getD k 0 : Nat) : Int)
def partOf (l : List Tile) (r : List Nat) : Line := (pad4 r, code (norths l r), code (souths l r), false)
def closes (l : List Tile) (r : List Nat) : Bool := decide (tW (tl l (r.getD 0 0)) = tE (tl l (r.getLastD 0)))
def lineOf (l : List Tile) (r : List Nat) : Line := (pad4 r, code (norths l r), code (souths l r), closes l r)

theorem pad4_len (r : List Nat) : (pad4 r).length = 4 := by simp [pad4]
theorem pad4_at (r : List Nat) {k : Nat} (hk : k < 4) : (pad4 r).getD k 0 = ((r.getD k 0 : Nat) : Int) := by
  simp [pad4, List.getD_eq_getElem?_getD, hk]
theorem pad4_push {r : List Nat} {i : Nat} (h : r.length < 4) : pad4 (r ++ [i]) = (pad4 r).set r.length (i : Int) := by
  refine List.ext_getElem (by simp [pad4]) fun k h1 h2 => ?_
  have hk : k < 4 := by simpa [pad4] using h1
  by_cases e : k = r.length
  · subst e
    simp [pad4]
  · rw [List.getElem_set_ne (by omega)]
    simp only [pad4, List.getElem_map, List.getElem_range, List.getD_eq_getElem?_getD]
    congr 2
    by_cases hlt : k < r.length
    · rw [List.getElem?_append_left hlt]
    · rw [List.getElem?_eq_none (by simp; omega), List.getElem?_eq_none (by omega)]

theorem code_bound {c : List Int} (h : ∀ x ∈ c, 0 ≤ x ∧ x ≤ 7) : 0 ≤ code c ∧ code c < 8 ^ c.length := by
  have key : ∀ (c : List Int) (n : Int), (∀ x ∈ c, 0 ≤ x ∧ x ≤ 7) → 0 ≤ n → 0 ≤ c.foldl (fun n x => n * 8 + x) n ∧ c.foldl (fun n x => n * 8 + x) n < (n + 1) * 8 ^ c.length := by
    intro c
    induction c with
    | nil => intro n _ hn; simp; omega
    | cons y c ih =>
      intro n h hn
      have hy := h y (by simp)
      have := ih (n * 8 + y) (fun x hx => h x (by simp [hx])) (by omega)
      simp only [List.foldl_cons, List.length_cons]
      refine ⟨this.1, Int.lt_of_lt_of_le this.2 ?_⟩
      rw [Int.pow_succ, Int.mul_comm (8 ^ c.length) 8, ← Int.mul_assoc]
      exact Int.mul_le_mul_of_nonneg_right (by omega) (Int.pow_nonneg (by omega))
  have := key c 0 h (Int.le_refl 0)
  simpa [code] using this

/-- What a row of the list is. -/
structure IsRow (l : List Tile) (r : List Nat) : Prop where
  lt : ∀ i ∈ r, i < l.length
  chain : ∀ k, k + 1 < r.length → tE (tl l (r.getD k 0)) = tW (tl l (r.getD (k + 1) 0))

theorem mem_exts {l : List Tile} : ∀ (n : Nat) (r q : List Nat), q ∈ exts l n r ↔ ∃ s, q = r ++ s ∧ s.length = n ∧ (∀ i ∈ s, i < l.length) ∧ ∀ k, k < n → fits l (r ++ s.take k) (s.getD k 0) = true
  | 0, r, q => by
    simp only [exts, List.mem_singleton]
    constructor
    · rintro rfl
      exact ⟨[], by simp, rfl, by simp, fun k hk => absurd hk (by omega)⟩
    · rintro ⟨s, rfl, hs, _⟩
      have : s = [] := List.length_eq_zero_iff.1 hs
      simp [this]
  | n + 1, r, q => by
    simp only [exts, List.mem_flatMap, List.mem_range]
    constructor
    · rintro ⟨i, hi, hq⟩
      split at hq
      case isFalse => cases hq
      rename_i hf
      obtain ⟨s, rfl, hs, hlt, hk⟩ := (mem_exts n (r ++ [i]) q).1 hq
      refine ⟨i :: s, by simp, by simp [hs], fun j hj => ?_, fun k hkn => ?_⟩
      · rcases List.mem_cons.1 hj with rfl | hj
        · exact hi
        · exact hlt j hj
      · cases k with
        | zero => simpa using hf
        | succ k =>
          have := hk k (by omega)
          simpa using this
    · rintro ⟨s, rfl, hs, hlt, hk⟩
      cases s with
      | nil => simp at hs
      | cons i s =>
        refine ⟨i, hlt i (by simp), ?_⟩
        have h0 := hk 0 (by omega)
        simp at h0
        rw [if_pos h0]
        refine (mem_exts n (r ++ [i]) _).2 ⟨s, by simp, by simpa using hs, fun j hj => hlt j (by simp [hj]), fun k hkn => ?_⟩
        have := hk (k + 1) (by omega)
        simpa using this

theorem mem_rowsL {l : List Tile} {w : Nat} {r : List Nat} : r ∈ rowsL l w ↔ r.length = w ∧ IsRow l r := by
  unfold rowsL
  rw [mem_exts]
  constructor
  · rintro ⟨s, e, hs, hlt, hk⟩
    simp only [List.nil_append] at e
    subst e
    refine ⟨hs, hlt, fun k hkl => ?_⟩
    have := hk (k + 1) (by omega)
    simp only [List.nil_append, fits, Bool.or_eq_true, decide_eq_true_eq] at this
    rcases this with h | h
    · have := congrArg List.length h
      rw [List.length_take, List.length_nil] at this
      omega
    · rw [List.take_add_one, List.getElem?_eq_getElem (by omega)] at h
      simp only [Option.toList_some, List.getLastD_concat] at h
      rw [List.getD_eq_getElem?_getD, List.getElem?_eq_getElem (by omega)]
      exact h
  · rintro ⟨hl, hr⟩
    refine ⟨r, by simp, hl, hr.lt, fun k hk => ?_⟩
    simp only [List.nil_append, fits, Bool.or_eq_true, decide_eq_true_eq]
    cases k with
    | zero => left; simp
    | succ k =>
      right
      have := hr.chain k (by omega)
      rw [List.take_add_one, List.getElem?_eq_getElem (by omega)]
      simp only [Option.toList_some, List.getLastD_concat]
      rw [List.getD_eq_getElem?_getD, List.getElem?_eq_getElem (by omega)] at this
      exact this

theorem exts_length_le {l : List Tile} (hl : l.length ≤ 16) : ∀ (n : Nat) (r : List Nat), (exts l n r).length ≤ 16 ^ n
  | 0, _ => by simp [exts]
  | n + 1, r => by
    have key : ∀ L : List Nat, (L.flatMap fun i => if fits l r i = true then exts l n (r ++ [i]) else []).length ≤ L.length * 16 ^ n := by
      intro L
      induction L with
      | nil => simp
      | cons i L ih =>
        rw [List.flatMap_cons, List.length_append, List.length_cons, Nat.add_mul, Nat.one_mul]
        have h1 : (if fits l r i = true then exts l n (r ++ [i]) else []).length ≤ 16 ^ n := by
          split
          · exact exts_length_le hl n _
          · simp
        omega
    have := key (List.range l.length)
    rw [List.length_range] at this
    rw [exts, Nat.pow_succ, Nat.mul_comm]
    exact Nat.le_trans this (Nat.mul_le_mul_right _ hl)

end Go.Wg

/- Boards, plainly: how the specification counts them cell by cell. No program. -/
namespace Go.Wg

/-! ### sums -/
def tot {α : Type} (f : α → Nat) : List α → Nat
  | [] => 0
  | x :: l => f x + tot f l
theorem tot_append {α : Type} (f : α → Nat) : ∀ a b : List α, tot f (a ++ b) = tot f a + tot f b
  | [], b => by simp [tot]
  | x :: a, b => by simp only [List.cons_append, tot, tot_append f a b]; omega
theorem tot_flatMap {α β : Type} (f : β → Nat) (g : α → List β) : ∀ a : List α, tot f (a.flatMap g) = tot (fun x => tot f (g x)) a
  | [] => rfl
  | x :: a => by rw [List.flatMap_cons, tot_append, tot_flatMap f g a]; rfl
theorem tot_map {α β : Type} (f : β → Nat) (g : α → β) : ∀ a : List α, tot f (a.map g) = tot (fun x => f (g x)) a
  | [] => rfl
  | x :: a => by rw [List.map_cons]; simp only [tot, tot_map f g a]
theorem tot_congr {α : Type} {f g : α → Nat} : ∀ {a : List α}, (∀ x ∈ a, f x = g x) → tot f a = tot g a
  | [], _ => rfl
  | x :: a, h => by simp only [tot]; rw [h x (by simp), tot_congr fun y hy => h y (by simp [hy])]
theorem tot_zero {α : Type} {f : α → Nat} {a : List α} (h : ∀ x ∈ a, f x = 0) : tot f a = 0 := by
  induction a with
  | nil => rfl
  | cons x a ih => simp only [tot]; rw [h x (by simp), ih fun y hy => h y (by simp [hy])]
theorem tot_pos {α : Type} {f : α → Nat} {a : List α} : 0 < tot f a ↔ ∃ x ∈ a, 0 < f x := by
  induction a with
  | nil => simp [tot]
  | cons x a ih =>
    simp only [tot, List.mem_cons, exists_eq_or_imp, ← ih]
    omega
theorem tot_const {α : Type} : ∀ a : List α, tot (fun _ => 1) a = a.length
  | [] => rfl
  | _ :: a => by simp only [tot, tot_const a, List.length_cons]; omega
theorem tot_add {α : Type} (f g : α → Nat) : ∀ a : List α, tot (fun x => f x + g x) a = tot f a + tot g a
  | [] => rfl
  | x :: a => by simp only [tot, tot_add f g a]; omega
theorem tot_mul {α : Type} (f : α → Nat) (c : Nat) : ∀ a : List α, tot (fun x => f x * c) a = tot f a * c
  | [] => by simp [tot]
  | x :: a => by simp only [tot, tot_mul f c a, Nat.add_mul]
theorem tot_range_eq {f : Nat → Nat} {n i : Nat} (hi : i < n) (h : ∀ j, j < n → j ≠ i → f j = 0) : tot f (List.range n) = f i := by
  induction n with
  | zero => omega
  | succ n ih =>
    rw [List.range_succ, tot_append]
    simp only [tot]
    by_cases e : i = n
    · subst e
      rw [tot_zero fun j hj => h j (by have := List.mem_range.1 hj; omega) (by have := List.mem_range.1 hj; omega)]
      omega
    · rw [ih (by omega) fun j hj hji => h j (by omega) hji, h n (by omega) (by omega)]
      omega
/-- Over places, or over what stands there. -/
theorem tot_places (l : List Tile) (f : Tile → Nat) : tot f l = tot (fun i => f (tl l i)) (List.range l.length) := by
  have key : ∀ n, n ≤ l.length → tot f (l.take n) = tot (fun i => f (tl l i)) (List.range n) := by
    intro n
    induction n with
    | zero => intro _; simp [tot]
    | succ n ih =>
      intro hn
      have hlt : n < l.length := by omega
      rw [List.range_succ, tot_append, ← ih (by omega)]
      have : l.take (n + 1) = l.take n ++ [tl l n] := by rw [List.take_add_one, tl_get hlt]; rfl
      rw [this, tot_append]
      rfl
  have := key l.length (Nat.le_refl _)
  rwa [List.take_of_length_le (Nat.le_refl _)] at this

/-! ### the colours between rows -/
def lineB (l : List Tile) (c : Nat) : Bool := l.any fun t => decide (tN t = (c : Int)) || decide (tS t = (c : Int))
def lineL (l : List Tile) : List Int := ((List.range 8).filter (lineB l)).map fun c : Nat => (c : Int)
theorem mem_line {l : List Tile} (hl : ∀ t ∈ l, colsB t = true) {t : Tile} (ht : t ∈ l) : tN t ∈ lineL l ∧ tS t ∈ lineL l := by
  have hr := cols_range (hl t ht)
  simp only [lineL, List.mem_map, List.mem_filter, List.mem_range, lineB, List.any_eq_true, Bool.or_eq_true, decide_eq_true_eq]
  exact ⟨⟨(tN t).toNat, ⟨by omega, t, ht, .inl (by omega)⟩, by omega⟩, ⟨(tS t).toNat, ⟨by omega, t, ht, .inr (by omega)⟩, by omega⟩⟩
theorem line_len (l : List Tile) : (lineL l).length ≤ 8 := by
  rw [lineL, List.length_map]
  have := List.length_filter_le (lineB l) (List.range 8)
  simpa using this
theorem line_pos {l : List Tile} (hs : IsSet l) : 0 < (lineL l).length := by
  have h0 := hs.pos
  exact List.length_pos_of_mem (mem_line hs.cols (List.getElem_mem (show 0 < l.length by omega))).1
def lidx (l : List Tile) (c : Int) : Nat := (lineL l).idxOf c
theorem lidx_lt {l : List Tile} {c : Int} (h : c ∈ lineL l) : lidx l c < (lineL l).length := List.idxOf_lt_length_iff.2 h
theorem lidx_get {l : List Tile} {c : Int} (h : c ∈ lineL l) : (lineL l).getD (lidx l c) 0 = c := by
  have hlt := lidx_lt h
  rw [List.getD_eq_getElem?_getD, List.getElem?_eq_getElem hlt]
  exact List.getElem_idxOf hlt

/-! ### states: a digit for each column, and the East on the left -/
def encD (n : Nat) : List Nat → Nat
  | [] => 0
  | a :: d => a + n * encD n d
def encS (n : Nat) (d : List Nat) (e : Nat) : Nat := 8 * encD n d + e
theorem encD_lt {n : Nat} : ∀ {d : List Nat}, (∀ a ∈ d, a < n) → encD n d < n ^ d.length
  | [], _ => by simp [encD]
  | a :: d, h => by
    have h1 := encD_lt (n := n) (d := d) fun b hb => h b (by simp [hb])
    have h2 := h a (by simp)
    rw [encD, List.length_cons, Nat.pow_succ, Nat.mul_comm (n ^ d.length) n]
    have : n * (encD n d + 1) ≤ n * n ^ d.length := Nat.mul_le_mul_left n h1
    rw [Nat.mul_add] at this
    omega
theorem encD_digit {n : Nat} : ∀ {d : List Nat} {x : Nat}, (∀ a ∈ d, a < n) → x < d.length → encD n d / n ^ x % n = d.getD x 0
  | a :: d, 0, h, _ => by
    have h2 := h a (by simp)
    rw [encD, Nat.pow_zero, Nat.div_one, Nat.add_mul_mod_self_left, Nat.mod_eq_of_lt h2]
    rfl
  | a :: d, x + 1, h, hx => by
    have h2 := h a (by simp)
    have hn : 0 < n := by omega
    rw [encD, Nat.pow_succ, Nat.mul_comm (n ^ x) n, ← Nat.div_div_eq_div_mul, Nat.add_mul_div_left _ _ hn, Nat.div_eq_of_lt h2, Nat.zero_add]
    rw [encD_digit (fun b hb => h b (by simp [hb])) (by simpa using hx)]
    rfl
theorem encD_set {n a : Nat} : ∀ {d : List Nat} {x : Nat}, x < d.length → encD n (d.set x a) + d.getD x 0 * n ^ x = encD n d + a * n ^ x
  | b :: d, 0, _ => by simp [encD]; omega
  | b :: d, x + 1, hx => by
    have := encD_set (n := n) (a := a) (d := d) (x := x) (by simpa using hx)
    simp only [List.set_cons_succ, encD, List.getD_cons_succ, Nat.pow_succ]
    have e1 : n * (encD n (d.set x a) + d.getD x 0 * n ^ x) = n * (encD n d + a * n ^ x) := by rw [this]
    rw [Nat.mul_add, Nat.mul_add] at e1
    have e2 : ∀ b, n * (b * n ^ x) = b * (n ^ x * n) := fun b => by rw [Nat.mul_comm n, Nat.mul_assoc]
    rw [e2, e2] at e1
    omega
theorem encD_ge {n : Nat} : ∀ {d : List Nat} {x : Nat}, x < d.length → d.getD x 0 * n ^ x ≤ encD n d
  | b :: d, 0, _ => by simp [encD]
  | b :: d, x + 1, hx => by
    have := encD_ge (n := n) (d := d) (x := x) (by simpa using hx)
    simp only [encD, List.getD_cons_succ, Nat.pow_succ]
    have e1 := Nat.mul_le_mul_left n this
    have e2 : n * (d.getD x 0 * n ^ x) = d.getD x 0 * (n ^ x * n) := by rw [Nat.mul_comm n, Nat.mul_assoc]
    omega
theorem encD_zero (n w : Nat) : encD n (List.replicate w 0) = 0 := by
  induction w with
  | zero => rfl
  | succ w ih => rw [List.replicate_succ, encD, ih]; simp

/-- What a state's digit is. -/
def aboveS (l : List Tile) (w p s : Nat) : Nat := s / ((lineL l).length ^ (p % w) * 8) % (lineL l).length
def misfit (l : List Tile) (w p s : Nat) (t : Tile) : Prop := (w ≤ p ∧ (lineL l).getD (aboveS l w p s) 0 ≠ tN t) ∨ (0 < p % w ∧ ((s % 8 : Nat) : Int) ≠ tW t)
instance (l : List Tile) (w p s : Nat) (t : Tile) : Decidable (misfit l w p s t) := inferInstanceAs (Decidable (_ ∨ _))
/-- The state behind a tile. -/
def putM (l : List Tile) (w p s : Nat) (t : Tile) : Option Nat :=
  if misfit l w p s t then none
  else some (s - aboveS l w p s * ((lineL l).length ^ (p % w) * 8) + lidx l (tS t) * ((lineL l).length ^ (p % w) * 8) - s % 8 + (tE t).toNat)

theorem put_enc {l : List Tile} (hl : ∀ t ∈ l, colsB t = true) {w p e : Nat} {d : List Nat} {t : Tile} (ht : t ∈ l) (hd : d.length = w) (hw : 0 < w) (hdn : ∀ a ∈ d, a < (lineL l).length) (he : e < 8) :
    putM l w p (encS (lineL l).length d e) t = if (w ≤ p ∧ (lineL l).getD (d.getD (p % w) 0) 0 ≠ tN t) ∨ (0 < p % w ∧ (e : Int) ≠ tW t) then none else some (encS (lineL l).length (d.set (p % w) (lidx l (tS t))) (tE t).toNat) := by
  have hx : p % w < d.length := by rw [hd]; exact Nat.mod_lt _ hw
  have hdig := encD_digit hdn hx
  have hab : aboveS l w p (encS (lineL l).length d e) = d.getD (p % w) 0 := by
    rw [aboveS, encS, Nat.mul_comm ((lineL l).length ^ (p % w)) 8, ← Nat.div_div_eq_div_mul, Nat.mul_add_div (by omega), Nat.div_eq_of_lt he, Nat.add_zero]
    exact hdig
  have hmod : encS (lineL l).length d e % 8 = e := by rw [encS, Nat.mul_add_mod, Nat.mod_eq_of_lt he]
  have hset := encD_set (n := (lineL l).length) (a := lidx l (tS t)) hx
  have hge := encD_ge (n := (lineL l).length) hx
  have e8 : ∀ a, a * ((lineL l).length ^ (p % w) * 8) = 8 * (a * (lineL l).length ^ (p % w)) := fun a => by rw [← Nat.mul_assoc, Nat.mul_comm]
  have hmis : misfit l w p (encS (lineL l).length d e) t ↔ ((w ≤ p ∧ (lineL l).getD (d.getD (p % w) 0) 0 ≠ tN t) ∨ (0 < p % w ∧ (e : Int) ≠ tW t)) := by
    unfold misfit
    rw [hab, hmod]
  unfold putM
  by_cases hc : misfit l w p (encS (lineL l).length d e) t
  · rw [if_pos hc, if_pos (hmis.1 hc)]
  · rw [if_neg hc, if_neg fun h => hc (hmis.2 h), hab, hmod, e8, e8]
    congr 1
    unfold encS
    omega

theorem getD_set_ne {d : List Nat} {x j a : Nat} (h : x ≠ j) : (d.set x a).getD j 0 = d.getD j 0 := by
  rw [List.getD_eq_getElem?_getD, List.getD_eq_getElem?_getD, List.getElem?_set_ne h]

/-- In how many ways a board goes on, q cells being left. -/
def Wq (l : List Tile) (w h : Nat) : Nat → Nat → Nat
  | 0, _ => 1
  | q + 1, s => tot (fun t => match putM l w (w * h - (q + 1)) s t with
    | some s' => Wq l w h q s'
    | none => 0) l

/-- Does the row lie under these colours, from column x on? -/
def matchN (l : List Tile) (d : List Nat) (x w : Nat) (r : List Nat) : Prop := ∀ j, x ≤ j → j < w → (lineL l).getD (d.getD j 0) 0 = tN (tl l (r.getD j 0))
instance (l : List Tile) (d : List Nat) (x w : Nat) (r : List Nat) : Decidable (matchN l d x w r) :=
  if h : ∀ j ∈ List.range w, x ≤ j → (lineL l).getD (d.getD j 0) 0 = tN (tl l (r.getD j 0)) then .isTrue fun j hx hj => h j (List.mem_range.2 hj) hx
  else .isFalse fun g => h fun j hj hx => g j hx (List.mem_range.1 hj)
def endE (l : List Tile) (r : List Nat) : Nat := (tE (tl l (r.getLastD 0))).toNat
def digS (l : List Tile) (r : List Nat) : List Nat := (souths l r).map (lidx l)

theorem exts_len {l : List Tile} {m : Nat} {r q : List Nat} (h : q ∈ exts l m r) : q.length = r.length + m := by
  obtain ⟨s, rfl, hs, _⟩ := (mem_exts m r q).1 h
  simp [hs]

/-- The rest of a row, cell by cell and tile by tile. -/
theorem row_ways {l : List Tile} (hs : IsSet l) {w h k y : Nat} (hw : 0 < w) (hy : y + 1 + k = h) : ∀ (m x : Nat) (r d : List Nat) (e : Nat), x + m = w → r.length = x → (∀ i ∈ r, i < l.length) → d.length = w → (∀ a ∈ d, a < (lineL l).length) → e < 8 → (0 < x → e = endE l r) →
    Wq l w h (k * w + m) (encS (lineL l).length d e) = tot (fun q => if y = 0 ∨ matchN l d x w q then Wq l w h (k * w) (encS (lineL l).length (d.take x ++ (digS l q).drop x) (endE l q)) else 0) (exts l m r)
  | 0, x, r, d, e, hxm, hr, hrl, hd, hdn, he, hre => by
    have hm : y = 0 ∨ matchN l d x w r := .inr fun j h1 h2 => by omega
    have e1 : d.take x = d := List.take_of_length_le (by omega)
    have e2 : (digS l r).drop x = [] := List.drop_eq_nil_of_le (by simp [digS, souths]; omega)
    simp only [exts, tot]
    rw [if_pos hm, e1, e2, List.append_nil, hre (by omega)]
    simp only [Nat.add_zero]
  | m + 1, x, r, d, e, hxm, hr, hrl, hd, hdn, he, hre => by
    have hxw : x < w := by omega
    have hp : w * h - (k * w + m + 1) = y * w + x := by
      have : w * h = y * w + w + k * w := by rw [← hy, Nat.mul_comm, Nat.add_mul, Nat.add_mul, Nat.one_mul]
      omega
    have hpm : (y * w + x) % w = x := by rw [Nat.add_comm, Nat.add_mul_mod_self_right, Nat.mod_eq_of_lt hxw]
    have hpw : (w ≤ y * w + x) ↔ ¬ y = 0 := by
      constructor
      · intro h1 h2; subst h2; omega
      · intro h1
        have : 1 * w ≤ y * w := Nat.mul_le_mul_right w (by omega)
        omega
    show tot (fun t => match putM l w (w * h - (k * w + m + 1)) (encS (lineL l).length d e) t with
      | some s' => Wq l w h (k * w + m) s'
      | none => 0) l = _
    rw [hp, tot_places, exts, tot_flatMap]
    refine tot_congr fun i hi => ?_
    have hil := List.mem_range.1 hi
    have htm : tl l i ∈ l := by unfold tl; exact getD_mem hil
    have hcr := cols_range (hs.cols _ htm)
    rw [put_enc hs.cols htm hd hw hdn he, hpm]
    have hfit : fits l r i = true ↔ ¬ (0 < x ∧ (e : Int) ≠ tW (tl l i)) := by
      unfold fits
      simp only [Bool.or_eq_true, decide_eq_true_eq]
      by_cases hx0 : x = 0
      · have : r = [] := List.length_eq_zero_iff.1 (by omega)
        simp [this, hx0]
      · have hne : r ≠ [] := fun h0 => hx0 (by rw [← hr, h0]; rfl)
        have hel := hre (by omega)
        have hlast : r.getLastD 0 < l.length := by
          refine hrl _ ?_
          rw [List.getLastD_eq_getLast?, List.getLast?_eq_some_getLast hne]
          exact List.getLast_mem hne
        have hlc := cols_range (hs.cols (tl l (r.getLastD 0)) (by unfold tl; exact getD_mem hlast))
        unfold endE at hel
        constructor
        · rintro (h1 | h1)
          · exact absurd h1 hne
          · rintro ⟨_, h2⟩; exact h2 (by omega)
        · intro h1
          right
          by_cases h2 : (e : Int) = tW (tl l i)
          · omega
          · exact absurd ⟨by omega, h2⟩ h1
    by_cases hf : fits l r i = true
    case neg =>
      rw [if_neg hf, if_pos (.inr (Classical.byContradiction fun h1 => hf (hfit.2 h1)))]
      rfl
    rw [if_pos hf]
    have hq : ∀ q ∈ exts l m (r ++ [i]), q.length = w ∧ q.getD x 0 = i := fun q hq => by
      obtain ⟨s, rfl, hs1, _⟩ := (mem_exts m (r ++ [i]) q).1 hq
      refine ⟨by simp; omega, ?_⟩
      rw [List.getD_eq_getElem?_getD, List.append_assoc, List.getElem?_append_right (by omega), hr, Nat.sub_self]
      rfl
    by_cases hn : y = 0 ∨ (lineL l).getD (d.getD x 0) 0 = tN (tl l i)
    · have hput : ¬ ((w ≤ y * w + x ∧ (lineL l).getD (d.getD x 0) 0 ≠ tN (tl l i)) ∨ (0 < x ∧ (e : Int) ≠ tW (tl l i))) := by
        rintro (⟨h1, h2⟩ | h1)
        · rcases hn with h3 | h3
          · exact (hpw.1 h1) h3
          · exact h2 h3
        · exact (hfit.1 hf) h1
      rw [if_neg hput]
      dsimp only
      rw [row_ways hs hw hy m (x + 1) (r ++ [i]) (d.set x (lidx l (tS (tl l i)))) (tE (tl l i)).toNat (by omega) (by simp [hr]) (fun j hj => by
        rcases List.mem_append.1 hj with h1 | h1
        · exact hrl j h1
        · simp at h1; rw [h1]; exact hil) (by simp [hd]) (fun a ha => by
        rcases List.mem_or_eq_of_mem_set ha with h1 | h1
        · exact hdn a h1
        · rw [h1]; exact lidx_lt (mem_line hs.cols htm).2) (by omega) (fun _ => by simp [endE])]
      refine tot_congr fun q hqm => ?_
      obtain ⟨hql, hqx⟩ := hq q hqm
      have hmm : (y = 0 ∨ matchN l (d.set x (lidx l (tS (tl l i)))) (x + 1) w q) ↔ (y = 0 ∨ matchN l d x w q) := by
        constructor
        · rintro (h1 | h1)
          · exact .inl h1
          · rcases hn with h2 | h2
            · exact .inl h2
            · refine .inr fun j h3 h4 => ?_
              by_cases hjx : j = x
              · subst hjx; rw [hqx]; exact h2
              · have := h1 j (by omega) h4
                rwa [getD_set_ne (by omega)] at this
        · rintro (h1 | h1)
          · exact .inl h1
          · refine .inr fun j h3 h4 => ?_
            rw [getD_set_ne (by omega)]
            exact h1 j (by omega) h4
      have hdd : (d.set x (lidx l (tS (tl l i)))).take (x + 1) ++ (digS l q).drop (x + 1) = d.take x ++ (digS l q).drop x := by
        have hxd : x < (d.set x (lidx l (tS (tl l i)))).length := by simp; omega
        rw [List.take_add_one, List.getElem?_eq_getElem hxd, List.getElem_set_self, List.take_set_of_le (Nat.le_refl _)]
        have hxq : x < (digS l q).length := by simp [digS, souths]; omega
        rw [List.drop_eq_getElem_cons hxq]
        have hxq' : x < q.length := by omega
        have : (digS l q)[x] = lidx l (tS (tl l i)) := by
          have h5 : q[x] = i := by
            rw [List.getD_eq_getElem?_getD, List.getElem?_eq_getElem hxq'] at hqx
            exact hqx
          simp [digS, souths, h5]
        rw [this]
        simp
      by_cases hc : y = 0 ∨ matchN l d x w q
      · rw [if_pos hc, if_pos (hmm.2 hc), hdd]
      · rw [if_neg hc, if_neg fun h1 => hc (hmm.1 h1)]
    · have hput : (w ≤ y * w + x ∧ (lineL l).getD (d.getD x 0) 0 ≠ tN (tl l i)) ∨ (0 < x ∧ (e : Int) ≠ tW (tl l i)) := by
        left
        refine ⟨hpw.2 fun h1 => hn (.inl h1), fun h1 => hn (.inr h1)⟩
      rw [if_pos hput]
      symm
      refine tot_zero fun q hqm => ?_
      obtain ⟨hql, hqx⟩ := hq q hqm
      rw [if_neg]
      rintro (h1 | h1)
      · exact hn (.inl h1)
      · exact hn (.inr (by have := h1 x (Nat.le_refl _) hxw; rwa [hqx] at this))

end Go.Wg

/- Lists of Souths, plainly: how the specification goes through them, and which rows they come of. No program. -/
namespace Go.Wg

def fitsN (nn : Option (List Int)) (x : Nat) (t : Tile) : Bool := match nn with
  | none => true
  | some n => decide (tN t = n.getD x 0)
def condE (nn : Option (List Int)) (x e c : Nat) (t : Tile) : Bool := decide (tS t = (c : Int)) && e.testBit (tW t).toNat && fitsN nn x t
def stepE (nn : Option (List Int)) (x e c : Nat) (a : Nat) (t : Tile) : Nat := if condE nn x e c t = true then a ||| 2 ^ (tE t).toNat else a
/-- The Easts behind the tiles with one South. -/
def nextE (nn : Option (List Int)) (x e c : Nat) (l : List Tile) : Nat := l.foldl (stepE nn x e c) 0
/-- The lists of Souths that go on by k. -/
def rfrom (l : List Tile) (nn : Option (List Int)) : Nat → List Int → Nat → List (List Int)
  | 0, s, _ => [s]
  | k + 1, s, e => (List.range 8).flatMap fun c => if nextE nn s.length e c l = 0 then [] else rfrom l nn k (s ++ [(c : Int)]) (nextE nn s.length e c l)

theorem fold_bit {nn : Option (List Int)} {x e c b : Nat} : ∀ (l : List Tile) (a : Nat), (l.foldl (stepE nn x e c) a).testBit b = true ↔ a.testBit b = true ∨ ∃ t ∈ l, condE nn x e c t = true ∧ (tE t).toNat = b
  | [], a => by simp
  | t :: l, a => by
    rw [List.foldl_cons, fold_bit l]
    unfold stepE
    by_cases h : condE nn x e c t = true
    · rw [if_pos h, Nat.testBit_or, Nat.testBit_two_pow]
      simp only [Bool.or_eq_true, decide_eq_true_eq, List.mem_cons, exists_eq_or_imp]
      constructor
      · rintro ((h1 | h1) | h1)
        · exact .inl h1
        · exact .inr (.inl ⟨h, h1⟩)
        · exact .inr (.inr h1)
      · rintro (h1 | ⟨_, h1⟩ | h1)
        · exact .inl (.inl h1)
        · exact .inl (.inr h1)
        · exact .inr h1
    · rw [if_neg h]
      simp only [List.mem_cons, exists_eq_or_imp]
      constructor
      · rintro (h1 | h1)
        · exact .inl h1
        · exact .inr (.inr h1)
      · rintro (h1 | ⟨h1, _⟩ | h1)
        · exact .inl h1
        · exact absurd h1 h
        · exact .inr h1
theorem next_bit {nn : Option (List Int)} {x e c b : Nat} {l : List Tile} : (nextE nn x e c l).testBit b = true ↔ ∃ t ∈ l, condE nn x e c t = true ∧ (tE t).toNat = b := by
  rw [nextE, fold_bit]
  simp

theorem step_lt {nn : Option (List Int)} {x e c a : Nat} {t : Tile} (ht : colsB t = true) (ha : a < 256) : stepE nn x e c a t < 256 := by
  unfold stepE
  split
  · have := cols_range ht
    have h2 : 2 ^ (tE t).toNat < 2 ^ 8 := Nat.pow_lt_pow_right (by omega) (by omega)
    exact Nat.or_lt_two_pow (n := 8) ha h2
  · exact ha
theorem fold_lt {nn : Option (List Int)} {x e c : Nat} : ∀ (l : List Tile) (a : Nat), (∀ t ∈ l, colsB t = true) → a < 256 → l.foldl (stepE nn x e c) a < 256
  | [], a, _, ha => ha
  | t :: l, a, hl, ha => by
    rw [List.foldl_cons]
    exact fold_lt l _ (fun u hu => hl u (by simp [hu])) (step_lt (hl t (by simp)) ha)
theorem next_lt {nn : Option (List Int)} {x e c : Nat} {l : List Tile} (hl : ∀ t ∈ l, colsB t = true) : nextE nn x e c l < 256 := fold_lt l 0 hl (by omega)

theorem rfrom_len {l : List Tile} {nn : Option (List Int)} : ∀ (k : Nat) (s : List Int) (e : Nat), (rfrom l nn k s e).length ≤ 8 ^ k
  | 0, s, e => by simp [rfrom]
  | k + 1, s, e => by
    have key : ∀ (f : Nat → List (List Int)), (∀ c, (f c).length ≤ 8 ^ k) → ∀ n, ((List.range n).flatMap f).length ≤ n * 8 ^ k := fun f hf n => by
      induction n with
      | zero => simp
      | succ n ih =>
        rw [List.range_succ, List.flatMap_append, List.length_append, Nat.add_mul, Nat.one_mul]
        have := hf n
        simp only [List.flatMap_cons, List.flatMap_nil, List.append_nil]
        omega
    rw [rfrom, Nat.pow_succ, Nat.mul_comm]
    refine key _ (fun c => ?_) 8
    split
    · simp
    · exact rfrom_len k _ _
theorem rfrom_row {l : List Tile} {nn : Option (List Int)} : ∀ (k : Nat) (s : List Int) (e : Nat) (r : List Int), r ∈ rfrom l nn k s e → r.length = s.length + k
  | 0, s, e, r, h => by simp [rfrom] at h; simp [h]
  | k + 1, s, e, r, h => by
    rw [rfrom, List.mem_flatMap] at h
    obtain ⟨c, _, h⟩ := h
    split at h
    · cases h
    · have := rfrom_row k _ _ r h
      simp at this
      omega

/-- A chain of tiles from column x on, the first West in a set of colours. -/
def TPath (l : List Tile) (nn : Option (List Int)) : Nat → Nat → List Tile → Prop
  | _, _, [] => True
  | x, e, t :: ts => t ∈ l ∧ fitsN nn x t = true ∧ e.testBit (tW t).toNat = true ∧ TPath l nn (x + 1) (2 ^ (tE t).toNat) ts

theorem TPath.mono {l : List Tile} {nn : Option (List Int)} {x e e' : Nat} (he : ∀ b, e.testBit b = true → e'.testBit b = true) : ∀ {ts : List Tile}, TPath l nn x e ts → TPath l nn x e' ts
  | [], _ => trivial
  | _ :: _, h => ⟨h.1, h.2.1, he _ h.2.2.1, h.2.2.2⟩

theorem exists_bit : ∀ {n : Nat}, n ≠ 0 → ∃ b, n.testBit b = true := fun {n} h => Nat.exists_testBit_of_ne_zero h

theorem TPath.of_next {l : List Tile} {nn : Option (List Int)} {x e c : Nat} {ts : List Tile} (h0 : nextE nn x e c l ≠ 0) (h : TPath l nn (x + 1) (nextE nn x e c l) ts) : ∃ t ∈ l, condE nn x e c t = true ∧ TPath l nn (x + 1) (2 ^ (tE t).toNat) ts := by
  cases ts with
  | nil =>
    obtain ⟨b, hb⟩ := exists_bit h0
    obtain ⟨t, ht, hc, _⟩ := next_bit.1 hb
    exact ⟨t, ht, hc, trivial⟩
  | cons u ts =>
    obtain ⟨h1, h2, h3, h4⟩ := h
    obtain ⟨t, ht, hc, he⟩ := next_bit.1 h3
    exact ⟨t, ht, hc, h1, h2, by rw [he, Nat.testBit_two_pow]; simp, h4⟩

theorem mem_rfrom {l : List Tile} {nn : Option (List Int)} (hl : ∀ t ∈ l, colsB t = true) : ∀ (k : Nat) (pre : List Int) (e : Nat) (s : List Int),
    s ∈ rfrom l nn k pre e ↔ ∃ ts : List Tile, ts.length = k ∧ TPath l nn pre.length e ts ∧ s = pre ++ ts.map tS
  | 0, pre, e, s => by
    simp only [rfrom, List.mem_singleton]
    constructor
    · rintro rfl
      exact ⟨[], rfl, trivial, by simp⟩
    · rintro ⟨ts, h1, _, rfl⟩
      have : ts = [] := List.length_eq_zero_iff.1 h1
      simp [this]
  | k + 1, pre, e, s => by
    rw [rfrom, List.mem_flatMap]
    have elen : ∀ c : Nat, (pre ++ [(c : Int)]).length = pre.length + 1 := fun c => by simp
    constructor
    · rintro ⟨c, hc, h⟩
      split at h
      · cases h
      · rename_i h0
        obtain ⟨ts, h1, h2, rfl⟩ := (mem_rfrom hl k _ _ s).1 h
        rw [elen] at h2
        obtain ⟨t, ht, hcond, hp⟩ := TPath.of_next h0 h2
        simp only [condE, Bool.and_eq_true, decide_eq_true_eq] at hcond
        refine ⟨t :: ts, by simp [h1], ⟨ht, hcond.2, hcond.1.2, hp⟩, ?_⟩
        simp [hcond.1.1]
    · rintro ⟨ts, h1, h2, rfl⟩
      cases ts with
      | nil => simp at h1
      | cons t ts =>
        obtain ⟨ht, hf, hb, hp⟩ := h2
        have hr := cols_range (hl t ht)
        refine ⟨(tS t).toNat, by simp; omega, ?_⟩
        have hcond : condE nn pre.length e (tS t).toNat t = true := by
          simp only [condE, Bool.and_eq_true, decide_eq_true_eq]
          exact ⟨⟨by omega, hb⟩, hf⟩
        have hbit : ∀ b, (2 ^ (tE t).toNat).testBit b = true → (nextE nn pre.length e (tS t).toNat l).testBit b = true := fun b h => by
          rw [Nat.testBit_two_pow, decide_eq_true_eq] at h
          exact next_bit.2 ⟨t, ht, hcond, h⟩
        have h0 : nextE nn pre.length e (tS t).toNat l ≠ 0 := fun h => by
          have := hbit (tE t).toNat (by simp)
          rw [h] at this
          simp at this
        rw [if_neg h0]
        refine (mem_rfrom hl k _ _ _).2 ⟨ts, by simpa using h1, by rw [elen]; exact hp.mono hbit, ?_⟩
        have : (((tS t).toNat : Nat) : Int) = tS t := by omega
        rw [this]
        simp

/-! ### rows of places and rows of tiles -/

theorem path_of_row {l : List Tile} {nn : Option (List Int)} (hl : ∀ t ∈ l, colsB t = true) : ∀ (r : List Nat) (x e : Nat), (∀ i ∈ r, i < l.length) → (∀ k, k + 1 < r.length → tE (tl l (r.getD k 0)) = tW (tl l (r.getD (k + 1) 0))) →
    (0 < r.length → e.testBit (tW (tl l (r.getD 0 0))).toNat = true) → (∀ j, j < r.length → fitsN nn (x + j) (tl l (r.getD j 0)) = true) → TPath l nn x e (r.map (tl l))
  | [], _, _, _, _, _, _ => trivial
  | i :: r, x, e, h1, h2, h3, h4 => by
    have hi := h1 i (by simp)
    have hmem : tl l i ∈ l := by unfold tl; exact getD_mem hi
    refine ⟨hmem, by simpa using h4 0 (by simp), by simpa using h3 (by simp), ?_⟩
    refine path_of_row hl r (x + 1) _ (fun j hj => h1 j (by simp [hj])) (fun k hk => by simpa using h2 (k + 1) (by simpa using hk)) (fun h0 => ?_) (fun j hj => by have := h4 (j + 1) (by simpa using hj); rw [show x + 1 + j = x + (j + 1) by omega]; simpa using this)
    have := h2 0 (by simpa using h0)
    simp only [List.getD_cons_zero, List.getD_cons_succ, Nat.zero_add] at this
    rw [← this, Nat.testBit_two_pow]
    simp

theorem row_of_path {l : List Tile} {nn : Option (List Int)} (hl : ∀ t ∈ l, colsB t = true) : ∀ (ts : List Tile) (x e : Nat), TPath l nn x e ts → ∃ r : List Nat, r.map (tl l) = ts ∧ (∀ i ∈ r, i < l.length) ∧ (∀ k, k + 1 < r.length → tE (tl l (r.getD k 0)) = tW (tl l (r.getD (k + 1) 0))) ∧ ∀ j, j < r.length → fitsN nn (x + j) (tl l (r.getD j 0)) = true
  | [], _, _, _ => ⟨[], rfl, by simp, by simp, by simp⟩
  | t :: ts, x, e, ⟨h1, h2, h3, h4⟩ => by
    obtain ⟨r, e1, r1, r2, r3⟩ := row_of_path hl ts _ _ h4
    obtain ⟨i, hi, hti⟩ := List.getElem_of_mem h1
    have hit : tl l i = t := by rw [tl, List.getD_eq_getElem?_getD, List.getElem?_eq_getElem hi, hti]; rfl
    refine ⟨i :: r, by rw [List.map_cons, e1, hit], fun j hj => ?_, fun k hk => ?_, fun j hj => ?_⟩
    · rcases List.mem_cons.1 hj with rfl | hj
      · exact hi
      · exact r1 j hj
    · cases k with
      | zero =>
        simp only [List.getD_cons_zero, List.getD_cons_succ, Nat.zero_add]
        rw [hit]
        cases hts : ts with
        | nil =>
          rw [hts] at e1
          have : r = [] := List.map_eq_nil_iff.1 e1
          rw [this] at hk
          simp at hk
        | cons u us =>
          rw [hts] at e1 h4
          obtain ⟨hu, _, hb, _⟩ := h4
          have e0 : tl l (r.getD 0 0) = u := by
            cases r with
            | nil => simp at e1
            | cons q r => simp at e1; simpa using e1.1
          rw [e0]
          rw [Nat.testBit_two_pow, decide_eq_true_eq] at hb
          have := cols_range (hl t h1)
          have := cols_range (hl u hu)
          omega
      | succ k =>
        simp only [List.getD_cons_succ]
        exact r2 k (by simpa using hk)
    · cases j with
      | zero => simpa [hit] using h2
      | succ j =>
        have := r3 j (by simpa using hj)
        rw [show x + (j + 1) = x + 1 + j by omega]
        simpa using this

/-- The lists of Souths of the rows under some Norths. -/
theorem mem_under {l : List Tile} (hl : ∀ t ∈ l, colsB t = true) {n s : List Int} : s ∈ rfrom l (some n) n.length [] 255 ↔ ∃ r ∈ rowsL l n.length, norths l r = n ∧ souths l r = s := by
  rw [mem_rfrom hl]
  constructor
  · rintro ⟨ts, h1, h2, rfl⟩
    obtain ⟨r, rfl, r1, r2, r3⟩ := row_of_path hl ts _ _ h2
    rw [List.length_map] at h1
    refine ⟨r, mem_rowsL.2 ⟨h1, r1, r2⟩, ?_, by simp [souths]⟩
    refine List.ext_getElem (by simp [norths, h1]) fun j hj hj' => ?_
    have hjr : j < r.length := by simpa [norths] using hj
    have := r3 j hjr
    simp only [fitsN, decide_eq_true_eq, List.length_nil, Nat.zero_add] at this
    simp only [norths, List.getElem_map]
    rw [List.getD_eq_getElem?_getD, List.getElem?_eq_getElem hjr, Option.getD_some, List.getD_eq_getElem?_getD, List.getElem?_eq_getElem hj', Option.getD_some] at this
    exact this
  · rintro ⟨r, hr, rfl, rfl⟩
    obtain ⟨h1, r1, r2⟩ := mem_rowsL.1 hr
    have hlen : (norths l r).length = r.length := by simp [norths]
    refine ⟨r.map (tl l), by simp [hlen], path_of_row hl r _ _ r1 r2 (fun h0 => ?_) (fun j hj => ?_), by simp [souths]⟩
    · have hi : r.getD 0 0 < l.length := r1 _ (getD_mem h0)
      have := cols_range (hl (tl l (r.getD 0 0)) (by unfold tl; exact getD_mem hi))
      generalize tW (tl l (r.getD 0 0)) = c at *
      have : c.toNat = 0 ∨ c.toNat = 1 ∨ c.toNat = 2 ∨ c.toNat = 3 ∨ c.toNat = 4 ∨ c.toNat = 5 ∨ c.toNat = 6 ∨ c.toNat = 7 := by omega
      rcases this with h | h | h | h | h | h | h | h <;> rw [h] <;> decide
    · simp only [fitsN, decide_eq_true_eq, List.length_nil, Nat.zero_add]
      simp [norths, List.getD_eq_getElem?_getD, hj]

/-- The lists of Souths of all rows. -/
theorem mem_firsts {l : List Tile} (hl : ∀ t ∈ l, colsB t = true) {w : Nat} {s : List Int} : s ∈ rfrom l none w [] 255 ↔ ∃ r ∈ rowsL l w, souths l r = s := by
  rw [mem_rfrom hl]
  constructor
  · rintro ⟨ts, h1, h2, rfl⟩
    obtain ⟨r, rfl, r1, r2, _⟩ := row_of_path hl ts _ _ h2
    rw [List.length_map] at h1
    exact ⟨r, mem_rowsL.2 ⟨h1, r1, r2⟩, by simp [souths]⟩
  · rintro ⟨r, hr, rfl⟩
    obtain ⟨h1, r1, r2⟩ := mem_rowsL.1 hr
    refine ⟨r.map (tl l), by simp [h1], path_of_row hl r _ _ r1 r2 (fun h0 => ?_) (fun j hj => rfl), by simp [souths]⟩
    have hi : r.getD 0 0 < l.length := r1 _ (getD_mem h0)
    have := cols_range (hl (tl l (r.getD 0 0)) (by unfold tl; exact getD_mem hi))
    generalize tW (tl l (r.getD 0 0)) = c at *
    have : c.toNat = 0 ∨ c.toNat = 1 ∨ c.toNat = 2 ∨ c.toNat = 3 ∨ c.toNat = 4 ∨ c.toNat = 5 ∨ c.toNat = 6 ∨ c.toNat = 7 := by omega
    rcases this with h | h | h | h | h | h | h | h <;> rw [h] <;> decide

theorem code_cons (x : Int) (c : List Int) : code (x :: c) = x * 8 ^ c.length + code c := by
  have key : ∀ (c : List Int) (n : Int), c.foldl (fun n x => n * 8 + x) n = n * 8 ^ c.length + code c := by
    intro c
    induction c with
    | nil => intro n; simp [code]
    | cons y c ih =>
      intro n
      rw [List.foldl_cons, ih]
      have := ih (0 * 8 + y)
      simp only [code, List.foldl_cons] at this ⊢
      rw [this, List.length_cons, Int.pow_succ]
      rw [Int.add_mul, Int.zero_mul, Int.zero_add, Int.mul_assoc n 8, Int.mul_comm 8, Int.add_assoc]
  have := key c x
  simp only [code, List.foldl_cons, Int.zero_mul, Int.zero_add]
  exact this
theorem code_inj : ∀ {a b : List Int}, a.length = b.length → (∀ x ∈ a, 0 ≤ x ∧ x ≤ 7) → (∀ x ∈ b, 0 ≤ x ∧ x ≤ 7) → code a = code b → a = b
  | [], [], _, _, _, _ => rfl
  | [], _ :: _, h, _, _, _ => by simp at h
  | _ :: _, [], h, _, _, _ => by simp at h
  | x :: a, y :: b, h, ha, hb, he => by
    have hl : a.length = b.length := by simpa using h
    have ha' : ∀ z ∈ a, 0 ≤ z ∧ z ≤ 7 := fun z hz => ha z (by simp [hz])
    have hb' : ∀ z ∈ b, 0 ≤ z ∧ z ≤ 7 := fun z hz => hb z (by simp [hz])
    have c1 := code_bound ha'
    have c2 := code_bound hb'
    rw [code_cons, code_cons, hl] at he
    rw [hl] at c1
    have hp : (0 : Int) < 8 ^ b.length := Int.pow_pos (by omega)
    have hxy : x = y := by
      have e1 : (x * 8 ^ b.length + code a) / 8 ^ b.length = x := by
        rw [Int.add_comm, Int.add_mul_ediv_right _ _ (by omega), Int.ediv_eq_zero_of_lt c1.1 c1.2]; omega
      have e2 : (y * 8 ^ b.length + code b) / 8 ^ b.length = y := by
        rw [Int.add_comm, Int.add_mul_ediv_right _ _ (by omega), Int.ediv_eq_zero_of_lt c2.1 c2.2]; omega
      rw [he, e2] at e1
      exact e1.symm
    subst hxy
    rw [code_inj hl ha' hb' (by omega)]

end Go.Wg
