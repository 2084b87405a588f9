/- Lists of Souths, plainly: how the specification goes through them, and which rows they come of. No program. -/
import Derived.Test.YtgalbokmgffhkaaT1
set_option linter.all false
namespace Go.Wg

def fitsN (nn : Option (List Int)) (x : Nat) (t : Tile) : Bool := match nn with
  | none => true
  | some n => decide (tN t = n.getD x 0)
def condE (nn : Option (List Int)) (x e c : Nat) (t : Tile) : Bool := decide (tS t = (c : Int)) && e.testBit (tW t).toNat && fitsN nn x t
def stepE (nn : Option (List Int)) (x e c : Nat) (a : Nat) (t : Tile) : Nat := if condE nn x e c t = true then a ||| 2 ^ (tE t).toNat else a
/-- The Easts behind the tiles with one South. -/
def nextE (nn : Option (List Int)) (x e c : Nat) (l : List Tile) : Nat := l.foldl (stepE nn x e c) 0
/-- The lists of Souths that go on by k. -/
def rfrom (l : List Tile) (nn : Option (List Int)) : Nat → List Int → Nat → List (List Int)
  | 0, s, _ => [s]
  | k + 1, s, e => (List.range 8).flatMap fun c => if nextE nn s.length e c l = 0 then [] else rfrom l nn k (s ++ [(c : Int)]) (nextE nn s.length e c l)

theorem fold_bit {nn : Option (List Int)} {x e c b : Nat} : ∀ (l : List Tile) (a : Nat), (l.foldl (stepE nn x e c) a).testBit b = true ↔ a.testBit b = true ∨ ∃ t ∈ l, condE nn x e c t = true ∧ (tE t).toNat = b
  | [], a => by simp
  | t :: l, a => by
    rw [List.foldl_cons, fold_bit l]
    unfold stepE
    by_cases h : condE nn x e c t = true
    · rw [if_pos h, Nat.testBit_or, Nat.testBit_two_pow]
      simp only [Bool.or_eq_true, decide_eq_true_eq, List.mem_cons, exists_eq_or_imp]
      constructor
      · rintro ((h1 | h1) | h1)
        · exact .inl h1
        · exact .inr (.inl ⟨h, h1⟩)
        · exact .inr (.inr h1)
      · rintro (h1 | ⟨_, h1⟩ | h1)
        · exact .inl (.inl h1)
        · exact .inl (.inr h1)
        · exact .inr h1
    · rw [if_neg h]
      simp only [List.mem_cons, exists_eq_or_imp]
      constructor
      · rintro (h1 | h1)
        · exact .inl h1
        · exact .inr (.inr h1)
      · rintro (h1 | ⟨h1, _⟩ | h1)
        · exact .inl h1
        · exact absurd h1 h
        · exact .inr h1
theorem next_bit {nn : Option (List Int)} {x e c b : Nat} {l : List Tile} : (nextE nn x e c l).testBit b = true ↔ ∃ t ∈ l, condE nn x e c t = true ∧ (tE t).toNat = b := by
  rw [nextE, fold_bit]
  simp

theorem step_lt {nn : Option (List Int)} {x e c a : Nat} {t : Tile} (ht : colsB t = true) (ha : a < 256) : stepE nn x e c a t < 256 := by
  unfold stepE
  split
  · have := cols_range ht
    have h2 : 2 ^ (tE t).toNat < 2 ^ 8 := Nat.pow_lt_pow_right (by omega) (by omega)
    exact Nat.or_lt_two_pow (n := 8) ha h2
  · exact ha
theorem fold_lt {nn : Option (List Int)} {x e c : Nat} : ∀ (l : List Tile) (a : Nat), (∀ t ∈ l, colsB t = true) → a < 256 → l.foldl (stepE nn x e c) a < 256
  | [], a, _, ha => ha
  | t :: l, a, hl, ha => by
    rw [List.foldl_cons]
    exact fold_lt l _ (fun u hu => hl u (by simp [hu])) (step_lt (hl t (by simp)) ha)
theorem next_lt {nn : Option (List Int)} {x e c : Nat} {l : List Tile} (hl : ∀ t ∈ l, colsB t = true) : nextE nn x e c l < 256 := fold_lt l 0 hl (by omega)

theorem rfrom_len {l : List Tile} {nn : Option (List Int)} : ∀ (k : Nat) (s : List Int) (e : Nat), (rfrom l nn k s e).length ≤ 8 ^ k
  | 0, s, e => by simp [rfrom]
  | k + 1, s, e => by
    have key : ∀ (f : Nat → List (List Int)), (∀ c, (f c).length ≤ 8 ^ k) → ∀ n, ((List.range n).flatMap f).length ≤ n * 8 ^ k := fun f hf n => by
      induction n with
      | zero => simp
      | succ n ih =>
        rw [List.range_succ, List.flatMap_append, List.length_append, Nat.add_mul, Nat.one_mul]
        have := hf n
        simp only [List.flatMap_cons, List.flatMap_nil, List.append_nil]
        omega
    rw [rfrom, Nat.pow_succ, Nat.mul_comm]
    refine key _ (fun c => ?_) 8
    split
    · simp
    · exact rfrom_len k _ _
theorem rfrom_row {l : List Tile} {nn : Option (List Int)} : ∀ (k : Nat) (s : List Int) (e : Nat) (r : List Int), r ∈ rfrom l nn k s e → r.length = s.length + k
  | 0, s, e, r, h => by simp [rfrom] at h; simp [h]
  | k + 1, s, e, r, h => by
    rw [rfrom, List.mem_flatMap] at h
    obtain ⟨c, _, h⟩ := h
    split at h
    · cases h
    · have := rfrom_row k _ _ r h
      simp at this
      omega

/-- A chain of tiles from column x on, the first West in a set of colours. -/
def TPath (l : List Tile) (nn : Option (List Int)) : Nat → Nat → List Tile → Prop
  | _, _, [] => True
  | x, e, t :: ts => t ∈ l ∧ fitsN nn x t = true ∧ e.testBit (tW t).toNat = true ∧ TPath l nn (x + 1) (2 ^ (tE t).toNat) ts

theorem TPath.mono {l : List Tile} {nn : Option (List Int)} {x e e' : Nat} (he : ∀ b, e.testBit b = true → e'.testBit b = true) : ∀ {ts : List Tile}, TPath l nn x e ts → TPath l nn x e' ts
  | [], _ => trivial
  | _ :: _, h => ⟨h.1, h.2.1, he _ h.2.2.1, h.2.2.2⟩

theorem exists_bit : ∀ {n : Nat}, n ≠ 0 → ∃ b, n.testBit b = true := fun {n} h => Nat.exists_testBit_of_ne_zero h

theorem TPath.of_next {l : List Tile} {nn : Option (List Int)} {x e c : Nat} {ts : List Tile} (h0 : nextE nn x e c l ≠ 0) (h : TPath l nn (x + 1) (nextE nn x e c l) ts) : ∃ t ∈ l, condE nn x e c t = true ∧ TPath l nn (x + 1) (2 ^ (tE t).toNat) ts := by
  cases ts with
  | nil =>
    obtain ⟨b, hb⟩ := exists_bit h0
    obtain ⟨t, ht, hc, _⟩ := next_bit.1 hb
    exact ⟨t, ht, hc, trivial⟩
  | cons u ts =>
    obtain ⟨h1, h2, h3, h4⟩ := h
    obtain ⟨t, ht, hc, he⟩ := next_bit.1 h3
    exact ⟨t, ht, hc, h1, h2, by rw [he, Nat.testBit_two_pow]; simp, h4⟩

theorem mem_rfrom {l : List Tile} {nn : Option (List Int)} (hl : ∀ t ∈ l, colsB t = true) : ∀ (k : Nat) (pre : List Int) (e : Nat) (s : List Int),
    s ∈ rfrom l nn k pre e ↔ ∃ ts : List Tile, ts.length = k ∧ TPath l nn pre.length e ts ∧ s = pre ++ ts.map tS
  | 0, pre, e, s => by
    simp only [rfrom, List.mem_singleton]
    constructor
    · rintro rfl
      exact ⟨[], rfl, trivial, by simp⟩
    · rintro ⟨ts, h1, _, rfl⟩
      have : ts = [] := List.length_eq_zero_iff.1 h1
      simp [this]
  | k + 1, pre, e, s => by
    rw [rfrom, List.mem_flatMap]
    have elen : ∀ c : Nat, (pre ++ [(c : Int)]).length = pre.length + 1 := fun c => by simp
    constructor
    · rintro ⟨c, hc, h⟩
      split at h
      · cases h
      · rename_i h0
        obtain ⟨ts, h1, h2, rfl⟩ := (mem_rfrom hl k _ _ s).1 h
        rw [elen] at h2
        obtain ⟨t, ht, hcond, hp⟩ := TPath.of_next h0 h2
        simp only [condE, Bool.and_eq_true, decide_eq_true_eq] at hcond
        refine ⟨t :: ts, by simp [h1], ⟨ht, hcond.2, hcond.1.2, hp⟩, ?_⟩
        simp [hcond.1.1]
    · rintro ⟨ts, h1, h2, rfl⟩
      cases ts with
      | nil => simp at h1
      | cons t ts =>
        obtain ⟨ht, hf, hb, hp⟩ := h2
        have hr := cols_range (hl t ht)
        refine ⟨(tS t).toNat, by simp; omega, ?_⟩
        have hcond : condE nn pre.length e (tS t).toNat t = true := by
          simp only [condE, Bool.and_eq_true, decide_eq_true_eq]
          exact ⟨⟨by omega, hb⟩, hf⟩
        have hbit : ∀ b, (2 ^ (tE t).toNat).testBit b = true → (nextE nn pre.length e (tS t).toNat l).testBit b = true := fun b h => by
          rw [Nat.testBit_two_pow, decide_eq_true_eq] at h
          exact next_bit.2 ⟨t, ht, hcond, h⟩
        have h0 : nextE nn pre.length e (tS t).toNat l ≠ 0 := fun h => by
          have := hbit (tE t).toNat (by simp)
          rw [h] at this
          simp at this
        rw [if_neg h0]
        refine (mem_rfrom hl k _ _ _).2 ⟨ts, by simpa using h1, by rw [elen]; exact hp.mono hbit, ?_⟩
        have : (((tS t).toNat : Nat) : Int) = tS t := by omega
        rw [this]
        simp

/-! ### rows of places and rows of tiles -/

theorem path_of_row {l : List Tile} {nn : Option (List Int)} (hl : ∀ t ∈ l, colsB t = true) : ∀ (r : List Nat) (x e : Nat), (∀ i ∈ r, i < l.length) → (∀ k, k + 1 < r.length → tE (tl l (r.getD k 0)) = tW (tl l (r.getD (k + 1) 0))) →
    (0 < r.length → e.testBit (tW (tl l (r.getD 0 0))).toNat = true) → (∀ j, j < r.length → fitsN nn (x + j) (tl l (r.getD j 0)) = true) → TPath l nn x e (r.map (tl l))
  | [], _, _, _, _, _, _ => trivial
  | i :: r, x, e, h1, h2, h3, h4 => by
    have hi := h1 i (by simp)
    have hmem : tl l i ∈ l := by unfold tl; exact getD_mem hi
    refine ⟨hmem, by simpa using h4 0 (by simp), by simpa using h3 (by simp), ?_⟩
    refine path_of_row hl r (x + 1) _ (fun j hj => h1 j (by simp [hj])) (fun k hk => by simpa using h2 (k + 1) (by simpa using hk)) (fun h0 => ?_) (fun j hj => by have := h4 (j + 1) (by simpa using hj); rw [show x + 1 + j = x + (j + 1) by omega]; simpa using this)
    have := h2 0 (by simpa using h0)
    simp only [List.getD_cons_zero, List.getD_cons_succ, Nat.zero_add] at this
    rw [← this, Nat.testBit_two_pow]
    simp

theorem row_of_path {l : List Tile} {nn : Option (List Int)} (hl : ∀ t ∈ l, colsB t = true) : ∀ (ts : List Tile) (x e : Nat), TPath l nn x e ts → ∃ r : List Nat, r.map (tl l) = ts ∧ (∀ i ∈ r, i < l.length) ∧ (∀ k, k + 1 < r.length → tE (tl l (r.getD k 0)) = tW (tl l (r.getD (k + 1) 0))) ∧ ∀ j, j < r.length → fitsN nn (x + j) (tl l (r.getD j 0)) = true
  | [], _, _, _ => ⟨[], rfl, by simp, by simp, by simp⟩
  | t :: ts, x, e, ⟨h1, h2, h3, h4⟩ => by
    obtain ⟨r, e1, r1, r2, r3⟩ := row_of_path hl ts _ _ h4
    obtain ⟨i, hi, hti⟩ := List.getElem_of_mem h1
    have hit : tl l i = t := by rw [tl, List.getD_eq_getElem?_getD, List.getElem?_eq_getElem hi, hti]; rfl
    refine ⟨i :: r, by rw [List.map_cons, e1, hit], fun j hj => ?_, fun k hk => ?_, fun j hj => ?_⟩
    · rcases List.mem_cons.1 hj with rfl | hj
      · exact hi
      · exact r1 j hj
    · cases k with
      | zero =>
        simp only [List.getD_cons_zero, List.getD_cons_succ, Nat.zero_add]
        rw [hit]
        cases hts : ts with
        | nil =>
          rw [hts] at e1
          have : r = [] := List.map_eq_nil_iff.1 e1
          rw [this] at hk
          simp at hk
        | cons u us =>
          rw [hts] at e1 h4
          obtain ⟨hu, _, hb, _⟩ := h4
          have e0 : tl l (r.getD 0 0) = u := by
            cases r with
            | nil => simp at e1
            | cons q r => simp at e1; simpa using e1.1
          rw [e0]
          rw [Nat.testBit_two_pow, decide_eq_true_eq] at hb
          have := cols_range (hl t h1)
          have := cols_range (hl u hu)
          omega
      | succ k =>
        simp only [List.getD_cons_succ]
        exact r2 k (by simpa using hk)
    · cases j with
      | zero => simpa [hit] using h2
      | succ j =>
        have := r3 j (by simpa using hj)
        rw [show x + (j + 1) = x + 1 + j by omega]
        simpa using this

/-- The lists of Souths of the rows under some Norths. -/
theorem mem_under {l : List Tile} (hl : ∀ t ∈ l, colsB t = true) {n s : List Int} : s ∈ rfrom l (some n) n.length [] 255 ↔ ∃ r ∈ rowsL l n.length, norths l r = n ∧ souths l r = s := by
  rw [mem_rfrom hl]
  constructor
  · rintro ⟨ts, h1, h2, rfl⟩
    obtain ⟨r, rfl, r1, r2, r3⟩ := row_of_path hl ts _ _ h2
    rw [List.length_map] at h1
    refine ⟨r, mem_rowsL.2 ⟨h1, r1, r2⟩, ?_, by simp [souths]⟩
    refine List.ext_getElem (by simp [norths, h1]) fun j hj hj' => ?_
    have hjr : j < r.length := by simpa [norths] using hj
    have := r3 j hjr
    simp only [fitsN, decide_eq_true_eq, List.length_nil, Nat.zero_add] at this
    simp only [norths, List.getElem_map]
    rw [List.getD_eq_getElem?_getD, List.getElem?_eq_getElem hjr, Option.getD_some, List.getD_eq_getElem?_getD, List.getElem?_eq_getElem hj', Option.getD_some] at this
    exact this
  · rintro ⟨r, hr, rfl, rfl⟩
    obtain ⟨h1, r1, r2⟩ := mem_rowsL.1 hr
    have hlen : (norths l r).length = r.length := by simp [norths]
    refine ⟨r.map (tl l), by simp [hlen], path_of_row hl r _ _ r1 r2 (fun h0 => ?_) (fun j hj => ?_), by simp [souths]⟩
    · have hi : r.getD 0 0 < l.length := r1 _ (getD_mem h0)
      have := cols_range (hl (tl l (r.getD 0 0)) (by unfold tl; exact getD_mem hi))
      generalize tW (tl l (r.getD 0 0)) = c at *
      have : c.toNat = 0 ∨ c.toNat = 1 ∨ c.toNat = 2 ∨ c.toNat = 3 ∨ c.toNat = 4 ∨ c.toNat = 5 ∨ c.toNat = 6 ∨ c.toNat = 7 := by omega
      rcases this with h | h | h | h | h | h | h | h <;> rw [h] <;> decide
    · simp only [fitsN, decide_eq_true_eq, List.length_nil, Nat.zero_add]
      simp [norths, List.getD_eq_getElem?_getD, hj]

/-- The lists of Souths of all rows. -/
theorem mem_firsts {l : List Tile} (hl : ∀ t ∈ l, colsB t = true) {w : Nat} {s : List Int} : s ∈ rfrom l none w [] 255 ↔ ∃ r ∈ rowsL l w, souths l r = s := by
  rw [mem_rfrom hl]
  constructor
  · rintro ⟨ts, h1, h2, rfl⟩
    obtain ⟨r, rfl, r1, r2, _⟩ := row_of_path hl ts _ _ h2
    rw [List.length_map] at h1
    exact ⟨r, mem_rowsL.2 ⟨h1, r1, r2⟩, by simp [souths]⟩
  · rintro ⟨r, hr, rfl⟩
    obtain ⟨h1, r1, r2⟩ := mem_rowsL.1 hr
    refine ⟨r.map (tl l), by simp [h1], path_of_row hl r _ _ r1 r2 (fun h0 => ?_) (fun j hj => rfl), by simp [souths]⟩
    have hi : r.getD 0 0 < l.length := r1 _ (getD_mem h0)
    have := cols_range (hl (tl l (r.getD 0 0)) (by unfold tl; exact getD_mem hi))
    generalize tW (tl l (r.getD 0 0)) = c at *
    have : c.toNat = 0 ∨ c.toNat = 1 ∨ c.toNat = 2 ∨ c.toNat = 3 ∨ c.toNat = 4 ∨ c.toNat = 5 ∨ c.toNat = 6 ∨ c.toNat = 7 := by omega
    rcases this with h | h | h | h | h | h | h | h <;> rw [h] <;> decide

theorem code_cons (x : Int) (c : List Int) : code (x :: c) = x * 8 ^ c.length + code c := by
  have key : ∀ (c : List Int) (n : Int), c.foldl (fun n x => n * 8 + x) n = n * 8 ^ c.length + code c := by
    intro c
    induction c with
    | nil => intro n; simp [code]
    | cons y c ih =>
      intro n
      rw [List.foldl_cons, ih]
      have := ih (0 * 8 + y)
      simp only [code, List.foldl_cons] at this ⊢
      rw [this, List.length_cons, Int.pow_succ]
      rw [Int.add_mul, Int.zero_mul, Int.zero_add, Int.mul_assoc n 8, Int.mul_comm 8, Int.add_assoc]
  have := key c x
  simp only [code, List.foldl_cons, Int.zero_mul, Int.zero_add]
  exact this
theorem code_inj : ∀ {a b : List Int}, a.length = b.length → (∀ x ∈ a, 0 ≤ x ∧ x ≤ 7) → (∀ x ∈ b, 0 ≤ x ∧ x ≤ 7) → code a = code b → a = b
  | [], [], _, _, _, _ => rfl
  | [], _ :: _, h, _, _, _ => by simp at h
  | _ :: _, [], h, _, _, _ => by simp at h
  | x :: a, y :: b, h, ha, hb, he => by
    have hl : a.length = b.length := by simpa using h
    have ha' : ∀ z ∈ a, 0 ≤ z ∧ z ≤ 7 := fun z hz => ha z (by simp [hz])
    have hb' : ∀ z ∈ b, 0 ≤ z ∧ z ≤ 7 := fun z hz => hb z (by simp [hz])
    have c1 := code_bound ha'
    have c2 := code_bound hb'
    rw [code_cons, code_cons, hl] at he
    rw [hl] at c1
    have hp : (0 : Int) < 8 ^ b.length := Int.pow_pos (by omega)
    have hxy : x = y := by
      have e1 : (x * 8 ^ b.length + code a) / 8 ^ b.length = x := by
        rw [Int.add_comm, Int.add_mul_ediv_right _ _ (by omega), Int.ediv_eq_zero_of_lt c1.1 c1.2]; omega
      have e2 : (y * 8 ^ b.length + code b) / 8 ^ b.length = y := by
        rw [Int.add_comm, Int.add_mul_ediv_right _ _ (by omega), Int.ediv_eq_zero_of_lt c2.1 c2.2]; omega
      rw [he, e2] at e1
      exact e1.symm
    subst hxy
    rw [code_inj hl ha' hb' (by omega)]

end Go.Wg
