/- Texts of my own, merged by program: E1 B4 Sd. -/
import Derived.Test.YtgalbokmgffhkaaM04
import Derived.Test.YtgalbokmgffhkaaM07
import Derived.Test.YtgalbokmgffhkaaM02
set_option linter.all false
/- Lists of Souths, plainly: how the specification goes through them, and which rows they come of. No program. -/
namespace Go.Wg

def fitsN (nn : Option (List Int)) (x : Nat) (t : Tile) : Bool := match nn with
  | none => true
  | some n => decide (tN t = n.getD x 0)
def condE (nn : Option (List Int)) (x e c : Nat) (t : Tile) : Bool := decide (tS t = (c : Int)) && e.testBit (tW t).toNat && fitsN nn x t
def stepE (nn : Option (List Int)) (x e c : Nat) (a : Nat) (t : Tile) : Nat := if condE nn x e c t = true then a ||| 2 ^ (tE t).toNat else a
/-- The Easts behind the tiles with one South. -/
def nextE (nn : Option (List Int)) (x e c : Nat) (l : List Tile) : Nat := l.foldl (stepE nn x e c) 0
/-- The lists of Souths that go on by k. -/
def rfrom (l : List Tile) (nn : Option (List Int)) : Nat → List Int → Nat → List (List Int)
  | 0, s, _ => [s]
  | k + 1, s, e => (List.range 8).flatMap fun c => if nextE nn s.length e c l = 0 then [] else rfrom l nn k (s ++ [(c : Int)]) (nextE nn s.length e c l)

theorem fold_bit {nn : Option (List Int)} {x e c b : Nat} : ∀ (l : List Tile) (a : Nat), (l.foldl (stepE nn x e c) a).testBit b = true ↔ a.testBit b = true ∨ ∃ t ∈ l, condE nn x e c t = true ∧ (tE t).toNat = b
  | [], a => by simp
  | t :: l, a => by
    rw [List.foldl_cons, fold_bit l]
    unfold stepE
    by_cases h : condE nn x e c t = true
    · rw [if_pos h, Nat.testBit_or, Nat.testBit_two_pow]
      simp only [Bool.or_eq_true, decide_eq_true_eq, List.mem_cons, exists_eq_or_imp]
      constructor
      · rintro ((h1 | h1) | h1)
        · exact .inl h1
        · exact .inr (.inl ⟨h, h1⟩)
        · exact .inr (.inr h1)
      · rintro (h1 | ⟨_, h1⟩ | h1)
        · exact .inl (.inl h1)
        · exact .inl (.inr h1)
        · exact .inr h1
    · rw [if_neg h]
      simp only [List.mem_cons, exists_eq_or_imp]
      constructor
      · rintro (h1 | h1)
        · exact .inl h1
        · exact .inr (.inr h1)
      · rintro (h1 | ⟨h1, _⟩ | h1)
        · exact .inl h1
        · exact absurd h1 h
        · exact .inr h1
theorem next_bit {nn : Option (List Int)} {x e c b : Nat} {l : List Tile} : (nextE nn x e c l).testBit b = true ↔ ∃ t ∈ l, condE nn x e c t = true ∧ (tE t).toNat = b := by
  rw [nextE, fold_bit]
  simp

theorem step_lt {nn : Option (List Int)} {x e c a : Nat} {t : Tile} (ht : colsB t = true) (ha : a < 256) : stepE nn x e c a t < 256 := by
  unfold stepE
  split
  · have := cols_range ht
    have h2 : 2 ^ (tE t).toNat < 2 ^ 8 := Nat.pow_lt_pow_right (by omega) (by omega)
    exact Nat.or_lt_two_pow (n := 8) ha h2
  · exact ha
theorem fold_lt {nn : Option (List Int)} {x e c : Nat} : ∀ (l : List Tile) (a : Nat), (∀ t ∈ l, colsB t = true) → a < 256 → l.foldl (stepE nn x e c) a < 256
  | [], a, _, ha => ha
  | t :: l, a, hl, ha => by
    rw [List.foldl_cons]
    exact fold_lt l _ (fun u hu => hl u (by simp [hu])) (step_lt (hl t (by simp)) ha)
theorem next_lt {nn : Option (List Int)} {x e c : Nat} {l : List Tile} (hl : ∀ t ∈ l, colsB t = true) : nextE nn x e c l < 256 := fold_lt l 0 hl (by omega)

theorem rfrom_len {l : List Tile} {nn : Option (List Int)} : ∀ (k : Nat) (s : List Int) (e : Nat), (rfrom l nn k s e).length ≤ 8 ^ k
  | 0, s, e => by simp [rfrom]
  | k + 1, s, e => by
    have key : ∀ (f : Nat → List (List Int)), (∀ c, (f c).length ≤ 8 ^ k) → ∀ n, ((List.range n).flatMap f).length ≤ n * 8 ^ k := fun f hf n => by
      induction n with
      | zero => simp
      | succ n ih =>
        rw [List.range_succ, List.flatMap_append, List.length_append, Nat.add_mul, Nat.one_mul]
        have := hf n
        simp only [List.flatMap_cons, List.flatMap_nil, List.append_nil]
        omega
    rw [rfrom, Nat.pow_succ, Nat.mul_comm]
    refine key _ (fun c => ?_) 8
    split
    · simp
    · exact rfrom_len k _ _
theorem rfrom_row {l : List Tile} {nn : Option (List Int)} : ∀ (k : Nat) (s : List Int) (e : Nat) (r : List Int), r ∈ rfrom l nn k s e → r.length = s.length + k
  | 0, s, e, r, h => by simp [rfrom] at h; simp [h]
  | k + 1, s, e, r, h => by
    rw [rfrom, List.mem_flatMap] at h
    obtain ⟨c, _, h⟩ := h
    split at h
    · cases h
    · have := rfrom_row k _ _ r h
      simp at this
      omega

/-- A chain of tiles from column x on, the first West in a set of colours. -/
def TPath (l : List Tile) (nn : Option (List Int)) : Nat → Nat → List Tile → Prop
  | _, _, [] => True
  | x, e, t :: ts => t ∈ l ∧ fitsN nn x t = true ∧ e.testBit (tW t).toNat = true ∧ TPath l nn (x + 1) (2 ^ (tE t).toNat) ts

theorem TPath.mono {l : List Tile} {nn : Option (List Int)} {x e e' : Nat} (he : ∀ b, e.testBit b = true → e'.testBit b = true) : ∀ {ts : List Tile}, TPath l nn x e ts → TPath l nn x e' ts
  | [], _ => trivial
  | _ :: _, h => ⟨h.1, h.2.1, he _ h.2.2.1, h.2.2.2⟩

theorem exists_bit : ∀ {n : Nat}, n ≠ 0 → ∃ b, n.testBit b = true := fun {n} h => Nat.exists_testBit_of_ne_zero h

theorem TPath.of_next {l : List Tile} {nn : Option (List Int)} {x e c : Nat} {ts : List Tile} (h0 : nextE nn x e c l ≠ 0) (h : TPath l nn (x + 1) (nextE nn x e c l) ts) : ∃ t ∈ l, condE nn x e c t = true ∧ TPath l nn (x + 1) (2 ^ (tE t).toNat) ts := by
  cases ts with
  | nil =>
    obtain ⟨b, hb⟩ := exists_bit h0
    obtain ⟨t, ht, hc, _⟩ := next_bit.1 hb
    exact ⟨t, ht, hc, trivial⟩
  | cons u ts =>
    obtain ⟨h1, h2, h3, h4⟩ := h
    obtain ⟨t, ht, hc, he⟩ := next_bit.1 h3
    exact ⟨t, ht, hc, h1, h2, by rw [he, Nat.testBit_two_pow]; simp, h4⟩

theorem mem_rfrom {l : List Tile} {nn : Option (List Int)} (hl : ∀ t ∈ l, colsB t = true) : ∀ (k : Nat) (pre : List Int) (e : Nat) (s : List Int),
    s ∈ rfrom l nn k pre e ↔ ∃ ts : List Tile, ts.length = k ∧ TPath l nn pre.length e ts ∧ s = pre ++ ts.map tS
  | 0, pre, e, s => by
    simp only [rfrom, List.mem_singleton]
    constructor
    · rintro rfl
      exact ⟨[], rfl, trivial, by simp⟩
    · rintro ⟨ts, h1, _, rfl⟩
      have : ts = [] := List.length_eq_zero_iff.1 h1
      simp [this]
  | k + 1, pre, e, s => by
    rw [rfrom, List.mem_flatMap]
    have elen : ∀ c : Nat, (pre ++ [(c : Int)]).length = pre.length + 1 := fun c => by simp
    constructor
    · rintro ⟨c, hc, h⟩
      split at h
      · cases h
      · rename_i h0
        obtain ⟨ts, h1, h2, rfl⟩ := (mem_rfrom hl k _ _ s).1 h
        rw [elen] at h2
        obtain ⟨t, ht, hcond, hp⟩ := TPath.of_next h0 h2
        simp only [condE, Bool.and_eq_true, decide_eq_true_eq] at hcond
        refine ⟨t :: ts, by simp [h1], ⟨ht, hcond.2, hcond.1.2, hp⟩, ?_⟩
        simp [hcond.1.1]
    · rintro ⟨ts, h1, h2, rfl⟩
      cases ts with
      | nil => simp at h1
      | cons t ts =>
        obtain ⟨ht, hf, hb, hp⟩ := h2
        have hr := cols_range (hl t ht)
        refine ⟨(tS t).toNat, by simp; omega, ?_⟩
        have hcond : condE nn pre.length e (tS t).toNat t = true := by
          simp only [condE, Bool.and_eq_true, decide_eq_true_eq]
          exact ⟨⟨by omega, hb⟩, hf⟩
        have hbit : ∀ b, (2 ^ (tE t).toNat).testBit b = true → (nextE nn pre.length e (tS t).toNat l).testBit b = true := fun b h => by
          rw [Nat.testBit_two_pow, decide_eq_true_eq] at h
          exact next_bit.2 ⟨t, ht, hcond, h⟩
        have h0 : nextE nn pre.length e (tS t).toNat l ≠ 0 := fun h => by
          have := hbit (tE t).toNat (by simp)
          rw [h] at this
          simp at this
        rw [if_neg h0]
        refine (mem_rfrom hl k _ _ _).2 ⟨ts, by simpa using h1, by rw [elen]; exact hp.mono hbit, ?_⟩
        have : (((tS t).toNat : Nat) : Int) = tS t := by omega
        rw [this]
        simp

/-! ### rows of places and rows of tiles -/

theorem path_of_row {l : List Tile} {nn : Option (List Int)} (hl : ∀ t ∈ l, colsB t = true) : ∀ (r : List Nat) (x e : Nat), (∀ i ∈ r, i < l.length) → (∀ k, k + 1 < r.length → tE (tl l (r.getD k 0)) = tW (tl l (r.getD (k + 1) 0))) →
    (0 < r.length → e.testBit (tW (tl l (r.getD 0 0))).toNat = true) → (∀ j, j < r.length → fitsN nn (x + j) (tl l (r.getD j 0)) = true) → TPath l nn x e (r.map (tl l))
  | [], _, _, _, _, _, _ => trivial
  | i :: r, x, e, h1, h2, h3, h4 => by
    have hi := h1 i (by simp)
    have hmem : tl l i ∈ l := by unfold tl; exact getD_mem hi
    refine ⟨hmem, by simpa using h4 0 (by simp), by simpa using h3 (by simp), ?_⟩
    refine path_of_row hl r (x + 1) _ (fun j hj => h1 j (by simp [hj])) (fun k hk => by simpa using h2 (k + 1) (by simpa using hk)) (fun h0 => ?_) (fun j hj => by have := h4 (j + 1) (by simpa using hj); rw [show x + 1 + j = x + (j + 1) by omega]; simpa using this)
    have := h2 0 (by simpa using h0)
    simp only [List.getD_cons_zero, List.getD_cons_succ, Nat.zero_add] at this
    rw [← this, Nat.testBit_two_pow]
    simp

theorem row_of_path {l : List Tile} {nn : Option (List Int)} (hl : ∀ t ∈ l, colsB t = true) : ∀ (ts : List Tile) (x e : Nat), TPath l nn x e ts → ∃ r : List Nat, r.map (tl l) = ts ∧ (∀ i ∈ r, i < l.length) ∧ (∀ k, k + 1 < r.length → tE (tl l (r.getD k 0)) = tW (tl l (r.getD (k + 1) 0))) ∧ ∀ j, j < r.length → fitsN nn (x + j) (tl l (r.getD j 0)) = true
  | [], _, _, _ => ⟨[], rfl, by simp, by simp, by simp⟩
  | t :: ts, x, e, ⟨h1, h2, h3, h4⟩ => by
    obtain ⟨r, e1, r1, r2, r3⟩ := row_of_path hl ts _ _ h4
    obtain ⟨i, hi, hti⟩ := List.getElem_of_mem h1
    have hit : tl l i = t := by rw [tl, List.getD_eq_getElem?_getD, List.getElem?_eq_getElem hi, hti]; rfl
    refine ⟨i :: r, by rw [List.map_cons, e1, hit], fun j hj => ?_, fun k hk => ?_, fun j hj => ?_⟩
    · rcases List.mem_cons.1 hj with rfl | hj
      · exact hi
      · exact r1 j hj
    · cases k with
      | zero =>
        simp only [List.getD_cons_zero, List.getD_cons_succ, Nat.zero_add]
        rw [hit]
        cases hts : ts with
        | nil =>
          rw [hts] at e1
          have : r = [] := List.map_eq_nil_iff.1 e1
          rw [this] at hk
          simp at hk
        | cons u us =>
          rw [hts] at e1 h4
          obtain ⟨hu, _, hb, _⟩ := h4
          have e0 : tl l (r.getD 0 0) = u := by
            cases r with
            | nil => simp at e1
            | cons q r => simp at e1; simpa using e1.1
          rw [e0]
          rw [Nat.testBit_two_pow, decide_eq_true_eq] at hb
          have := cols_range (hl t h1)
          have := cols_range (hl u hu)
          omega
      | succ k =>
        simp only [List.getD_cons_succ]
        exact r2 k (by simpa using hk)
    · cases j with
      | zero => simpa [hit] using h2
      | succ j =>
        have := r3 j (by simpa using hj)
        rw [show x + (j + 1) = x + 1 + j by omega]
        simpa using this

/-- The lists of Souths of the rows under some Norths. -/
theorem mem_under {l : List Tile} (hl : ∀ t ∈ l, colsB t = true) {n s : List Int} : s ∈ rfrom l (some n) n.length [] 255 ↔ ∃ r ∈ rowsL l n.length, norths l r = n ∧ souths l r = s := by
  rw [mem_rfrom hl]
  constructor
  · rintro ⟨ts, h1, h2, rfl⟩
    obtain ⟨r, rfl, r1, r2, r3⟩ := row_of_path hl ts _ _ h2
    rw [List.length_map] at h1
    refine ⟨r, mem_rowsL.2 ⟨h1, r1, r2⟩, ?_, by simp [souths]⟩
    refine List.ext_getElem (by simp [norths, h1]) fun j hj hj' => ?_
    have hjr : j < r.length := by simpa [norths] using hj
    have := r3 j hjr
    simp only [fitsN, decide_eq_true_eq, List.length_nil, Nat.zero_add] at this
    simp only [norths, List.getElem_map]
    rw [List.getD_eq_getElem?_getD, List.getElem?_eq_getElem hjr, Option.getD_some, List.getD_eq_getElem?_getD, List.getElem?_eq_getElem hj', Option.getD_some] at this
    exact this
  · rintro ⟨r, hr, rfl, rfl⟩
    obtain ⟨h1, r1, r2⟩ := mem_rowsL.1 hr
    have hlen : (norths l r).length = r.length := by simp [norths]
    refine ⟨r.map (tl l), by simp [hlen], path_of_row hl r _ _ r1 r2 (fun h0 => ?_) (fun j hj => ?_), by simp [souths]⟩
    · have hi : r.getD 0 0 < l.length := r1 _ (getD_mem h0)
      have := cols_range (hl (tl l (r.getD 0 0)) (by unfold tl; exact getD_mem hi))
      generalize tW (tl l (r.getD 0 0)) = c at *
      have : c.toNat = 0 ∨ c.toNat = 1 ∨ c.toNat = 2 ∨ c.toNat = 3 ∨ c.toNat = 4 ∨ c.toNat = 5 ∨ c.toNat = 6 ∨ c.toNat = 7 := by omega
      rcases this with h | h | h | h | h | h | h | h <;> rw [h] <;> decide
    · simp only [fitsN, decide_eq_true_eq, List.length_nil, Nat.zero_add]
      simp [norths, List.getD_eq_getElem?_getD, hj]

/-- The lists of Souths of all rows. -/
theorem mem_firsts {l : List Tile} (hl : ∀ t ∈ l, colsB t = true) {w : Nat} {s : List Int} : s ∈ rfrom l none w [] 255 ↔ ∃ r ∈ rowsL l w, souths l r = s := by
  rw [mem_rfrom hl]
  constructor
  · rintro ⟨ts, h1, h2, rfl⟩
    obtain ⟨r, rfl, r1, r2, _⟩ := row_of_path hl ts _ _ h2
    rw [List.length_map] at h1
    exact ⟨r, mem_rowsL.2 ⟨h1, r1, r2⟩, by simp [souths]⟩
  · rintro ⟨r, hr, rfl⟩
    obtain ⟨h1, r1, r2⟩ := mem_rowsL.1 hr
    refine ⟨r.map (tl l), by simp [h1], path_of_row hl r _ _ r1 r2 (fun h0 => ?_) (fun j hj => rfl), by simp [souths]⟩
    have hi : r.getD 0 0 < l.length := r1 _ (getD_mem h0)
    have := cols_range (hl (tl l (r.getD 0 0)) (by unfold tl; exact getD_mem hi))
    generalize tW (tl l (r.getD 0 0)) = c at *
    have : c.toNat = 0 ∨ c.toNat = 1 ∨ c.toNat = 2 ∨ c.toNat = 3 ∨ c.toNat = 4 ∨ c.toNat = 5 ∨ c.toNat = 6 ∨ c.toNat = 7 := by omega
    rcases this with h | h | h | h | h | h | h | h <;> rw [h] <;> decide

theorem code_cons (x : Int) (c : List Int) : code (x :: c) = x * 8 ^ c.length + code c := by
  have key : ∀ (c : List Int) (n : Int), c.foldl (fun n x => n * 8 + x) n = n * 8 ^ c.length + code c := by
    intro c
    induction c with
    | nil => intro n; simp [code]
    | cons y c ih =>
      intro n
      rw [List.foldl_cons, ih]
      have := ih (0 * 8 + y)
      simp only [code, List.foldl_cons] at this ⊢
      rw [this, List.length_cons, Int.pow_succ]
      rw [Int.add_mul, Int.zero_mul, Int.zero_add, Int.mul_assoc n 8, Int.mul_comm 8, Int.add_assoc]
  have := key c x
  simp only [code, List.foldl_cons, Int.zero_mul, Int.zero_add]
  exact this
theorem code_inj : ∀ {a b : List Int}, a.length = b.length → (∀ x ∈ a, 0 ≤ x ∧ x ≤ 7) → (∀ x ∈ b, 0 ≤ x ∧ x ≤ 7) → code a = code b → a = b
  | [], [], _, _, _, _ => rfl
  | [], _ :: _, h, _, _, _ => by simp at h
  | _ :: _, [], h, _, _, _ => by simp at h
  | x :: a, y :: b, h, ha, hb, he => by
    have hl : a.length = b.length := by simpa using h
    have ha' : ∀ z ∈ a, 0 ≤ z ∧ z ≤ 7 := fun z hz => ha z (by simp [hz])
    have hb' : ∀ z ∈ b, 0 ≤ z ∧ z ≤ 7 := fun z hz => hb z (by simp [hz])
    have c1 := code_bound ha'
    have c2 := code_bound hb'
    rw [code_cons, code_cons, hl] at he
    rw [hl] at c1
    have hp : (0 : Int) < 8 ^ b.length := Int.pow_pos (by omega)
    have hxy : x = y := by
      have e1 : (x * 8 ^ b.length + code a) / 8 ^ b.length = x := by
        rw [Int.add_comm, Int.add_mul_ediv_right _ _ (by omega), Int.ediv_eq_zero_of_lt c1.1 c1.2]; omega
      have e2 : (y * 8 ^ b.length + code b) / 8 ^ b.length = y := by
        rw [Int.add_comm, Int.add_mul_ediv_right _ _ (by omega), Int.ediv_eq_zero_of_lt c2.1 c2.2]; omega
      rw [he, e2] at e1
      exact e1.symm
    subst hxy
    rw [code_inj hl ha' hb' (by omega)]

end Go.Wg

/- Contract: alive: which lists of Norths can be gone on from. -/
namespace Go.Proofs.Ytgalbokmgffhkaa
open Go.Lf Go.RowKit Go.Wg

abbrev vE (u : Value) : List Value := [u]
theorem vE_len (u : Value) : (vE u).length = 1 := rfl

theorem rec_one {α : Type} {e : TypeId} {enc : α → List Value} {x : α} {z : Value} (hz : enc x = [z]) (w : World) : RecAt e 1 enc w.heap.size (w.alloc (.cells #[z] e)) (.slice (some ⟨w.heap.size, 0, none⟩) 1 1) [x] := by
  have e1 : recCells enc [x] = [z] := by simp [recCells, hz]
  refine ⟨by rw [e1]; rfl, .inr ⟨w.heap.size, 1, _, rfl, Nat.le_refl _, heap_alloc_new w _, Nat.le_refl _, by unfold maxLen; omega, rfl, ?_⟩⟩
  rw [e1]
  rfl

/-- Lists of booleans, each in memory of its own. -/
def BRows (base : Nat) (w : World) (v : Value) (R : List (List Bool)) : Prop :=
  ∃ vs : List Value, RecAt 91 1 vE base w v vs ∧ vs.length = R.length ∧ ∀ (i : Nat) (u : Value) (r : List Bool), vs[i]? = some u → R[i]? = some r → BoolsAt base w u r

theorem BRows.kp {base : Nat} {w w' : World} {v : Value} {R : List (List Bool)} (h : BRows base w v R) (hk : Kp w w') : BRows base w' v R :=
  let ⟨vs, h1, h2, h3⟩ := h; ⟨vs, h1.kp hk, h2, fun i u r hu hr => (h3 i u r hu hr).kp hk⟩
theorem BRows.len {base : Nat} {w : World} {v : Value} {R : List (List Bool)} (h : BRows base w v R) : ∃ a cap, v = .slice a R.length cap ∧ R.length ≤ cap := by
  obtain ⟨vs, h1, h2, _⟩ := h
  have := h1.len
  rwa [h2] at this
theorem BRows.row {base : Nat} {w : World} {v : Value} {R : List (List Bool)} (h : BRows base w v R) {i : Nat} {r : List Bool} (hi : R[i]? = some r) :
    ∃ b off cap u, v = .slice (some ⟨b, off, none⟩) R.length cap ∧ w.cell? ⟨b, off + i, none⟩ = some u ∧ BoolsAt base w u r := by
  obtain ⟨vs, h1, h2, h3⟩ := h
  have hlt : i < vs.length := by rw [h2]; exact (List.getElem?_eq_some_iff.1 hi).1
  obtain ⟨b, off, cap, e, _, hc⟩ := (h1.rd vE_len).at (List.getElem?_eq_getElem hlt)
  exact ⟨b, off, cap, vs[i], by rw [← h2]; exact e, by simpa using hc 0 _ rfl, h3 i _ r (List.getElem?_eq_getElem hlt) hi⟩

/-- Blocks of different types are different. -/
theorem rec_ne {α β : Type} {e e' : TypeId} {m m' : Nat} {enc : α → List Value} {enc' : β → List Value} {base base' : Nat} {w : World} {v v' : Value} {P : List α} {Q : List β} (h : RecAt e m enc base w v P) (h' : RecAt e' m' enc' base' w v' Q) (hne : e ≠ e') : ∀ k, v.ownBlock = some k → v'.ownBlock ≠ some k := by
  intro k hk hk'
  rcases h.2 with ⟨rfl, _⟩ | ⟨g, cap, cur, rfl, _, hg, _⟩
  · cases hk
  rcases h'.2 with ⟨rfl, _⟩ | ⟨g', cap', cur', rfl, _, hg', _⟩
  · cases hk'
  cases hk
  injection hk' with hk'
  dsimp only at hk'
  subst hk'
  rw [hg] at hg'
  injection hg' with hg'
  injection hg' with _ h3 _
  exact hne h3

def alvF (prev a : List Bool) (x : Line) : List Bool := a.set x.2.1.toNat (a.getD x.2.1.toNat false || prev.getD x.2.2.1.toNat false)
def alvL (L : List Line) (N : Nat) : Nat → List Bool
  | 0 => List.replicate N true
  | k + 1 => L.foldl (alvF (alvL L N k)) (List.replicate N false)
theorem alvF_len (prev : List Bool) : ∀ (L : List Line) (a : List Bool), (L.foldl (alvF prev) a).length = a.length
  | [], _ => rfl
  | x :: L, a => by rw [List.foldl_cons, alvF_len prev L]; simp [alvF]
theorem alvL_len (L : List Line) (N : Nat) : ∀ k, (alvL L N k).length = N
  | 0 => by simp [alvL]
  | k + 1 => by rw [alvL, alvF_len]; simp

set_option maxRecDepth 100000 in
set_option maxHeartbeats 800000 in
theorem alive_calls {lv : Value} {L : List Line} {a h : Nat} (w : World) (ha : 1 ≤ a ∧ a ≤ 4) (hh : h ≤ 100) (hL : RdL w lv L) (hok : LnOk (8 ^ a) L) (hLl : L.length ≤ 1000000) :
    Calls Try.prog 76 #[lv, .int .i64 a, .int .i64 h] w fun e w' => ∃ v', e = .returned v' ∧ Kp w w' ∧ BRows w.heap.size w' v' ((List.range (h + 1)).map (alvL L (8 ^ a))) := by
  obtain ⟨la, lcap, rfl, hlc⟩ := hL.len
  refine lift76 ?_
  unfold S76
  rw [bs91]
  have k1 : Kp w (w.alloc (.cells #[.bool true] 4)) := below_alloc _
  have n1 := heap_alloc_new w (.cells #[.bool true] 4)
  generalize w.alloc (.cells #[.bool true] 4) = w1 at *
  refine r_use fok73 (codes_calls w1 ha.2) rfl ?_
  rintro _ _ ⟨rfl, rfl⟩
  refine ⟨_, rfl, ?_⟩
  have h8 := pow8N_le ha.2
  have hm := mulOk ha
  have hcodes := fun w => codes_calls w ha.2
  generalize 8 ^ a = N at *
  refine r_use fok106 (repeatB_calls (b := w.heap.size) (off := 0) (x := true) hm w1 (by rw [cell_row n1]; rfl)) rfl ?_
  rintro _ w2 ⟨rv, rfl, k2, hrv⟩
  refine ⟨_, rfl, ?_⟩
  clear hm
  have k02 := Kp.trans k1 k2
  have s1 := k1.size
  have s2 := k2.size
  obtain ⟨ra, rcap, rfl, _⟩ := hrv.len
  rw [bs88]
  have k3 : Kp w2 (w2.alloc (.cells #[.slice ra (List.replicate N true).length rcap] 91)) := below_alloc _
  have o3 := rec_one (e := 91) (enc := vE) (x := .slice ra (List.replicate N true).length rcap) rfl w2
  generalize hsz2 : w2.heap.size = sz2 at *
  generalize w2.alloc (.cells #[.slice ra (List.replicate N true).length rcap] 91) = w3 at *
  have B0 : BRows w.heap.size w3 (.slice (some ⟨sz2, 0, none⟩) 1 1) ((List.range 1).map (alvL L N)) := by
    refine ⟨[.slice ra (List.replicate N true).length rcap], o3.down (by omega), rfl, fun i u r hu hr => ?_⟩
    match i with
    | 0 =>
      cases hu
      cases hr
      exact (hrv.kp k3).down (by omega)
    | i + 1 => simp at hu
  have k03 := Kp.trans k02 k3
  refine ⟨fun t7 t8 wr => ∃ k : Nat, 1 ≤ k ∧ k ≤ h + 1 ∧ t8 = .int .i64 k ∧ BRows w.heap.size wr t7 ((List.range k).map (alvL L N)) ∧ Kp w wr, fun _ t8 _ => h + 1 - (intOf t8).toNat, ⟨1, by omega, by omega, rfl, B0, k03⟩, ?_⟩
  rintro _ t7 _ wr ⟨k, hk1, hk, rfl, hB, kr⟩
  by_cases hkl : k ≤ h
  case neg =>
    have hkl' : ¬ (k : Int) ≤ (h : Int) := by omega
    have : k = h + 1 := by omega
    subst this
    simp (disch := omega) only [r_ln, r_pick, r_pickT, r_pickF, r_condT, r_condF, r_gdTT, r_gdFF, r_gdTF, r_gdFT, r_gqTT, r_gqFF, r_gqTF, r_gqFT, r_not, r_lss, r_leq, r_gtr, r_geq, r_eql, r_neq, r_add, r_sub, r_min2, r_max2, r_min3, r_max3, r_fa, r_iaS, r_iaA, r_ex2a, r_ex2b, r_ex3a, r_ex3b, r_ex3c, r_nc, r_keepE, Nat.zero_add, Nat.add_zero, Nat.mul_one, Int.toNat_natCast, toNat_sub1, toNat_add1, decide_true, decide_false, Bool.not_true, Bool.not_false, if_true, if_false, Bool.false_eq_true, reduceCtorEq, hkl']
    exact ⟨_, rfl, kr, hB⟩
  have hkl' : (k : Int) ≤ (h : Int) := by omega
  simp (disch := omega) only [r_ln, r_pick, r_pickT, r_pickF, r_condT, r_condF, r_gdTT, r_gdFF, r_gdTF, r_gdFT, r_gqTT, r_gqFF, r_gqTF, r_gqFT, r_not, r_lss, r_leq, r_gtr, r_geq, r_eql, r_neq, r_add, r_sub, r_min2, r_max2, r_min3, r_max3, r_fa, r_iaS, r_iaA, r_ex2a, r_ex2b, r_ex3a, r_ex3b, r_ex3c, r_nc, r_keepE, Nat.zero_add, Nat.add_zero, Nat.mul_one, Int.toNat_natCast, toNat_sub1, toNat_add1, decide_true, decide_false, Bool.not_true, Bool.not_false, if_true, if_false, Bool.false_eq_true, reduceCtorEq, decide_eq_true hkl']
  refine r_use fok73 (hcodes wr) rfl ?_
  rintro _ _ ⟨rfl, rfl⟩
  refine ⟨_, rfl, ?_⟩
  refine mk91 (by omega) fun v w4 hv k4 hvb => ?_
  have sr := kr.size
  have s4 := k4.size
  obtain ⟨oa, ocap, rfl, _⟩ := hB.len
  try simp only [r_ln, r_pick, r_pickT, r_pickF, r_condT, r_condF, r_gdTT, r_gdFF, r_gdTF, r_gdFT, r_gqTT, r_gqFF, r_gqTF, r_gqFT, r_not, r_lss, r_leq, r_gtr, r_geq, r_eql, r_neq, r_add, r_sub, r_min2, r_max2, r_min3, r_max3, r_fa, r_iaS, r_iaA, r_ex2a, r_ex2b, r_ex3a, r_ex3b, r_ex3c, r_nc, r_keepE, Nat.zero_add, Nat.add_zero, Nat.mul_one, Int.toNat_natCast, toNat_sub1, toNat_add1, decide_true, decide_false, Bool.not_true, Bool.not_false, if_true, if_false, Bool.false_eq_true, reduceCtorEq]
  refine ⟨fun t27 wq => ∃ i : Nat, i ≤ L.length ∧ t27 = .int .i64 i ∧ Kp wr wq ∧ BoolsAt wr.heap.size wq v ((L.take i).foldl (alvF (alvL L N (k - 1))) (List.replicate N false)), fun t27 _ => L.length - (intOf t27).toNat,
    ⟨0, by omega, rfl, k4, by simpa using hv⟩, ?_⟩
  rintro _ _ wq ⟨i, hi, rfl, kq, hvq⟩
  have hBq := hB.kp kq
  have hNl := alvF_len (alvL L N (k - 1)) (L.take i) (List.replicate N false)
  rw [List.length_replicate] at hNl
  have sq := kq.size
  by_cases hil : i < L.length
  case neg =>
    have hil' : ¬ (i : Int) < (L.length : Int) := by omega
    rw [List.take_of_length_le (by omega)] at hvq hNl
    simp (disch := omega) only [r_ln, r_pick, r_pickT, r_pickF, r_condT, r_condF, r_gdTT, r_gdFF, r_gdTF, r_gdFT, r_gqTT, r_gqFF, r_gqTF, r_gqFT, r_not, r_lss, r_leq, r_gtr, r_geq, r_eql, r_neq, r_add, r_sub, r_min2, r_max2, r_min3, r_max3, r_fa, r_iaS, r_iaA, r_ex2a, r_ex2b, r_ex3a, r_ex3b, r_ex3c, r_nc, r_keepE, Nat.zero_add, Nat.add_zero, Nat.mul_one, Int.toNat_natCast, toNat_sub1, toNat_add1, decide_true, decide_false, Bool.not_true, Bool.not_false, if_true, if_false, Bool.false_eq_true, reduceCtorEq, hil']
    obtain ⟨va, vcap, rfl, _⟩ := hvq.len
    obtain ⟨vs, o1, o2, o3'⟩ := hBq
    refine r_pushRec (x := .slice va _ vcap) slt88 vE_len rfl (bs88 _ _ _ _) (by intro u hu; simp at hu; subst hu; rfl) (by omega) o1 (by rw [o2]; simp; omega) (by omega) fun v' w5 p1 p2 p3 => ?_
    try simp (disch := omega) only [r_ln, r_pick, r_pickT, r_pickF, r_condT, r_condF, r_gdTT, r_gdFF, r_gdTF, r_gdFT, r_gqTT, r_gqFF, r_gqTF, r_gqFT, r_not, r_lss, r_leq, r_gtr, r_geq, r_eql, r_neq, r_add, r_sub, r_min2, r_max2, r_min3, r_max3, r_fa, r_iaS, r_iaA, r_ex2a, r_ex2b, r_ex3a, r_ex3b, r_ex3c, r_nc, r_keepE, Nat.zero_add, Nat.add_zero, Nat.mul_one, Int.toNat_natCast, toNat_sub1, toNat_add1, decide_true, decide_false, Bool.not_true, Bool.not_false, if_true, if_false, Bool.false_eq_true, reduceCtorEq]
    refine ⟨⟨k + 1, by omega, by omega, by go_num, ⟨_, p1, by simp [o2], fun j u r hu hr => ?_⟩, Kp.of_chg (Kp.trans kr kq) p2 fun q hq => (o1.lt hq).1⟩, by simp only [intOf]; omega⟩
    have key : ∀ u r, BoolsAt w.heap.size wq u r → BoolsAt w.heap.size w5 u r := fun u r hb => hb.chg p2 fun q hq => rec_ne hb o1 (by decide) q hq
    rw [List.range_succ, List.map_append] at hr
    by_cases hj : j < vs.length
    · rw [List.getElem?_append_left hj] at hu
      rw [List.getElem?_append_left (by rw [← o2]; exact hj)] at hr
      exact key u r (o3' j u r hu hr)
    · rw [List.getElem?_append_right (by omega)] at hu
      rw [List.getElem?_append_right (by rw [← o2]; omega), ← o2] at hr
      match hjj : j - vs.length with
      | 0 =>
        rw [hjj] at hu hr
        cases hu
        simp at hr
        subst hr
        refine key _ _ (RecAt.down ?_ sr)
        have e : alvL L N k = L.foldl (alvF (alvL L N (k - 1))) (List.replicate N false) := by
          obtain ⟨k', rfl⟩ : ∃ k', k = k' + 1 := ⟨k - 1, by omega⟩
          rfl
        rw [e]
        exact hvq
      | n + 1 => rw [hjj] at hu; simp at hu
  have hil' : (i : Int) < (L.length : Int) := by omega
  obtain ⟨x, hx⟩ : ∃ x, L[i]? = some x := ⟨_, List.getElem?_eq_getElem hil⟩
  obtain ⟨lb, lo, lc, el, _, hld⟩ := RdL.line (hL.kp (Kp.trans kr kq)) hx
  cases el
  simp (disch := omega) only [r_ln, r_pick, r_pickT, r_pickF, r_condT, r_condF, r_gdTT, r_gdFF, r_gdTF, r_gdFT, r_gqTT, r_gqFF, r_gqTF, r_gqFT, r_not, r_lss, r_leq, r_gtr, r_geq, r_eql, r_neq, r_add, r_sub, r_min2, r_max2, r_min3, r_max3, r_fa, r_iaS, r_iaA, r_ex2a, r_ex2b, r_ex3a, r_ex3b, r_ex3c, r_nc, r_keepE, Nat.zero_add, Nat.add_zero, Nat.mul_one, Int.toNat_natCast, toNat_sub1, toNat_add1, decide_true, decide_false, Bool.not_true, Bool.not_false, if_true, if_false, Bool.false_eq_true, reduceCtorEq, decide_eq_true hil', hld]
  refine r_box fun b11 x2 e11 s11 h11 y2 => ?_
  refine r_stAll (n := 7) (ty := 78) (by kernel_rfl) rfl (by intro u hu; simp [Value.cells] at hu; rcases hu with rfl | rfl | rfl | rfl | rfl | rfl | rfl <;> rfl) h11 rfl fun x3 c11 s11' h113 => ?_
  have y3 : Kp wq x3 := Kp.of_chg y2 c11 fun i e => by omega
  refine r_drew fun x4 y4 _ => ?_
  have y04 := Kp.trans y3 y4
  have h114 := block_below h113 y4
  have c4 : x4.cell? ⟨b11, 4, none⟩ = some (.int .i64 x.2.1) := by rw [cell_row h114]; rfl
  have c5 : x4.cell? ⟨b11, 5, none⟩ = some (.int .i64 x.2.2.1) := by rw [cell_row h114]; rfl
  obtain ⟨⟨x1, x2'⟩, x3', x4'⟩ := hok x (List.mem_of_getElem? hx)
  have htake : (L.take (i + 1)).foldl (alvF (alvL L N (k - 1))) (List.replicate N false) = alvF (alvL L N (k - 1)) ((L.take i).foldl (alvF (alvL L N (k - 1))) (List.replicate N false)) x := by
    rw [List.take_add_one, hx]
    simp
  have hpl := alvL_len L N (k - 1)
  obtain ⟨ob, oo, _, u, eo, ocell, hu⟩ := (hBq.kp y04).row (i := k - 1) (r := alvL L N (k - 1)) (by rw [List.getElem?_map, List.getElem?_range (by omega)]; rfl)
  cases eo
  generalize alvL L N (k - 1) = prev at *
  generalize (L.take i).foldl (alvF prev) (List.replicate N false) = A at *
  obtain ⟨g, cap, ev, hgb, gc, gf, gset⟩ := BoolsAt.put (hvq.kp y04) (q := x.2.1.toNat) (by omega) (A.getD x.2.1.toNat false || prev.getD x.2.2.1.toNat false)
  obtain ⟨ub, uo, uc, eu, _, hus⟩ := (hu.rd bC_len).at (i := x.2.2.1.toNat) (x := prev.getD x.2.2.1.toNat false) (by rw [List.getElem?_eq_getElem (by omega), getD_lt _ _ _ (by omega)])
  have hus0 := hus 0 _ rfl
  simp only [Nat.mul_one, Nat.add_zero] at hus0
  subst ev
  subst eu
  cases hA : A.getD x.2.1.toNat false with
  | true =>
    rw [hA] at gset
    simp (disch := omega) only [r_ln, r_pick, r_pickT, r_pickF, r_condT, r_condF, r_gdTT, r_gdFF, r_gdTF, r_gdFT, r_gqTT, r_gqFF, r_gqTF, r_gqFT, r_not, r_lss, r_leq, r_gtr, r_geq, r_eql, r_neq, r_add, r_sub, r_min2, r_max2, r_min3, r_max3, r_fa, r_iaS, r_iaA, r_ex2a, r_ex2b, r_ex3a, r_ex3b, r_ex3c, r_nc, r_keepE, Nat.zero_add, Nat.add_zero, Nat.mul_one, Int.toNat_natCast, toNat_sub1, toNat_add1, decide_true, decide_false, Bool.not_true, Bool.not_false, if_true, if_false, Bool.false_eq_true, reduceCtorEq, r_ld c4, r_ld c5, r_ld gc, hA]
    rw [st4 gc gf]
    try simp (disch := omega) only [r_ln, r_pick, r_pickT, r_pickF, r_condT, r_condF, r_gdTT, r_gdFF, r_gdTF, r_gdFT, r_gqTT, r_gqFF, r_gqTF, r_gqFT, r_not, r_lss, r_leq, r_gtr, r_geq, r_eql, r_neq, r_add, r_sub, r_min2, r_max2, r_min3, r_max3, r_fa, r_iaS, r_iaA, r_ex2a, r_ex2b, r_ex3a, r_ex3b, r_ex3c, r_nc, r_keepE, Nat.zero_add, Nat.add_zero, Nat.mul_one, Int.toNat_natCast, toNat_sub1, toNat_add1, decide_true, decide_false, Bool.not_true, Bool.not_false, if_true, if_false, Bool.false_eq_true, reduceCtorEq]
    refine ⟨⟨i + 1, by omega, by go_num, Kp.of_chg (Kp.trans kq y04) (Chg.setCell (S := fun k => k = g) _ _ rfl) fun k e => by omega, ?_⟩, by simp only [intOf]; omega⟩
    rw [htake, alvF, hA]
    simpa using gset
  | false =>
    rw [hA] at gset
    have hlm : (List.map (alvL L N) (List.range k)).length = k := by simp
    simp (disch := omega) only [r_ln, r_pick, r_pickT, r_pickF, r_condT, r_condF, r_gdTT, r_gdFF, r_gdTF, r_gdFT, r_gqTT, r_gqFF, r_gqTF, r_gqFT, r_not, r_lss, r_leq, r_gtr, r_geq, r_eql, r_neq, r_add, r_sub, r_min2, r_max2, r_min3, r_max3, r_fa, r_iaS, r_iaA, r_ex2a, r_ex2b, r_ex3a, r_ex3b, r_ex3c, r_nc, r_keepE, Nat.zero_add, Nat.add_zero, Nat.mul_one, Int.toNat_natCast, toNat_sub1, toNat_add1, decide_true, decide_false, Bool.not_true, Bool.not_false, if_true, if_false, Bool.false_eq_true, reduceCtorEq, r_ld c4, r_ld c5, r_ld gc, hA, hlm, r_ld ocell, r_ld hus0]
    rw [st4 gc gf]
    try simp (disch := omega) only [r_ln, r_pick, r_pickT, r_pickF, r_condT, r_condF, r_gdTT, r_gdFF, r_gdTF, r_gdFT, r_gqTT, r_gqFF, r_gqTF, r_gqFT, r_not, r_lss, r_leq, r_gtr, r_geq, r_eql, r_neq, r_add, r_sub, r_min2, r_max2, r_min3, r_max3, r_fa, r_iaS, r_iaA, r_ex2a, r_ex2b, r_ex3a, r_ex3b, r_ex3c, r_nc, r_keepE, Nat.zero_add, Nat.add_zero, Nat.mul_one, Int.toNat_natCast, toNat_sub1, toNat_add1, decide_true, decide_false, Bool.not_true, Bool.not_false, if_true, if_false, Bool.false_eq_true, reduceCtorEq]
    refine ⟨⟨i + 1, by omega, by go_num, Kp.of_chg (Kp.trans kq y04) (Chg.setCell (S := fun k => k = g) _ _ rfl) fun k e => by omega, ?_⟩, by simp only [intOf]; omega⟩
    rw [htake, alvF, hA]
    simpa using gset

end Go.Proofs.Ytgalbokmgffhkaa

/- Lifted texts, printed by program (gen.py): what each function's code asks. The ties are by the kernel. -/
namespace Go.Proofs.Ytgalbokmgffhkaa
open Go.Lf Go.RowKit

def S85 (t0 t1 : Value) (w : World) (R : Ending → World → Prop) : Prop :=
  callW Try.prog (.func (.func 57) #[] #[]) [t0, t1] w fun t7 w =>
  R (.returned t7) w

def A85 : Ann where
  live := fun _ => []
  wr := fun _ _ => false
  sched := fun _ => .done

set_option maxRecDepth 100000 in
theorem ok85 : (codeOk Try.f85.ntmps A85 (Try.f85.body.getD .skip) 0 && Nat.ble 2 Try.f85.ntmps) = true := by kernel_rfl
set_option maxRecDepth 100000 in
theorem lift85 {t0 t1 : Value} {w : World} {R : Ending → World → Prop} (h : S85 t0 t1 w R) : Calls Try.prog 85 #[t0, t1] w R :=
  calls_of_cw (fn := Try.f85) (c := Try.f85.body.getD .skip) A85 mixes Try.func85 (by kernel_rfl) ok85
    ((by kernel_rfl : (S85 t0 t1 w R) = cw Try.prog A85 (Try.f85.body.getD .skip) 0 (bodyQ Try.prog Try.f85 R) (frOf #[t0, t1]) w).mp h)

def S21 (t0 t1 : Value) (w : World) (R : Ending → World → Prop) : Prop :=
  boxW 22 t0 w fun t2 w =>
  ld1 w t2 fun t19 =>
  callW Try.prog (.func (.func 65) #[] #[]) [t19] w fun t20 w =>
  unQ .not t20 fun t21 =>
  gd t21 false (fun k => k t1 w) w fun t23 w =>
  gd t21 false (fun k => ln1 t23 fun v => k v w) w fun t24 w =>
  gd t21 false (fun k => callW Try.prog (.func (.func 66) #[] #[]) [t24] w k) w fun t25 w =>
  gd t21 false (fun k => unQ .not t25 fun v => k v w) w fun t26 w =>
  pickQ t21 (.bool true) t26 fun t27 =>
  gd t27 false (fun k => k t1 w) w fun t29 w =>
  gd t27 false (fun k => iaS 1 t29 (.int .i64 0) fun v => k v w) w fun t30 w =>
  gd t27 false (fun k => ld1 w t30 fun v => k v w) w fun t31 w =>
  gd t27 false (fun k => ln1 t31 fun v => k v w) w fun t32 w =>
  gd t27 false (fun k => callW Try.prog (.func (.func 66) #[] #[]) [t32] w k) w fun t33 w =>
  gd t27 false (fun k => unQ .not t33 fun v => k v w) w fun t34 w =>
  pickQ t27 (.bool true) t34 fun t35 =>
  condW t35 (
    R (.returned (.tuple #[(.bool false), (.bool false), (.int .i64 2)])) w
  ) (
    iaS 1 t1 (.int .i64 0) fun t37 =>
    ld1 w t37 fun t38 =>
    ln1 t38 fun t39 =>
    ln1 t1 fun t41 =>
    ln1 t1 fun t43 =>
    Loop1 (.int .i64 0) w fun _ t44 w next =>
      binQ Try.prog w .lss 3 false t44 t43 fun t45 =>
      condW t45 (
        iaS 1 t1 t44 fun t46 =>
        ld1 w t46 fun t47 =>
        ln1 t47 fun t49 =>
        binQ Try.prog w .neq 3 false t49 t39 fun t51 =>
        gd t51 false (fun k => k t47 w) w fun t53 w =>
        gd t51 false (fun k => k (.func (.func 67) #[] #[t2]) w) w fun t54 w =>
        gd t51 false (fun k => callW Try.prog (.func (.func 54) #[] #[]) [t53, t54] w k) w fun t55 w =>
        pickQ t51 (.bool true) t55 fun t56 =>
        condW t56 (
          R (.returned (.tuple #[(.bool false), (.bool false), (.int .i64 2)])) w
        ) (
          binQ Try.prog w .add 3 true t44 (.int .i64 1) fun t57 =>
          next t57 w
        )
      ) (
        ln1 t1 fun t59 =>
        Loop3 (.bool true) (.bool true) (.int .i64 0) w fun _ t11 t12 t60 w next_2 =>
          binQ Try.prog w .lss 3 false t60 t59 fun t61 =>
          condW t61 (
            iaS 1 t1 t60 fun t63 =>
            ld1 w t63 fun t64 =>
            ln1 t64 fun t66 =>
            Loop3 t11 t12 (.int .i64 0) w fun _ t11_2 t12_2 t67 w next_3 =>
              binQ Try.prog w .lss 3 false t67 t66 fun t68 =>
              condW t68 (
                iaS 1 t64 t67 fun t70 =>
                ld1 w t70 fun t71 =>
                Drew w fun w =>
                Join (fun (k_2 : Value → Value → World → Prop) =>
                  ∃ X : Nat → Prop,
                  takeX X w (fun w k => ld1 w t2 k) fun t72 =>
                  takeX X w (fun w k => k t64) fun t73 =>
                  takeX X w (fun w k => k t67) fun t74 =>
                  takeX X w (fun w k => binQ Try.prog w .add 3 true t74 (.int .i64 1) k) fun t75 =>
                  takeX X w (fun w k => k t39) fun t76 =>
                  takeX X w (fun w k => binQ Try.prog w .rem 3 false t75 t76 k) fun t77 =>
                  takeX X w (fun w k => iaS 1 t73 t77 k) fun t78 =>
                  takeX X w (fun w k => ld1 w t78 k) fun t79 =>
                  takeX X w (fun w k => iaS 4 t72 t79 k) fun t80 =>
                  takeX X w (fun w k => ldN 4 w t80 k) fun t81 =>
                  takeX X w (fun w k => ld1 w t2 k) fun t82 =>
                  takeX X w (fun w k => k t1) fun t83 =>
                  takeX X w (fun w k => k t60) fun t84 =>
                  takeX X w (fun w k => binQ Try.prog w .add 3 true t84 (.int .i64 1) k) fun t85 =>
                  takeX X w (fun w k => k t41) fun t86 =>
                  takeX X w (fun w k => binQ Try.prog w .rem 3 false t85 t86 k) fun t87 =>
                  takeX X w (fun w k => iaS 1 t83 t87 k) fun t88 =>
                  takeX X w (fun w k => ld1 w t88 k) fun t89 =>
                  takeX X w (fun w k => k t67) fun t90 =>
                  takeX X w (fun w k => iaS 1 t89 t90 k) fun t91 =>
                  takeX X w (fun w k => ld1 w t91 k) fun t92 =>
                  takeX X w (fun w k => iaS 4 t82 t92 k) fun t93 =>
                  takeX X w (fun w k => ldN 4 w t93 k) fun t94 =>
                  And (
                    boxW 32 (.agg #[(.int .i64 0), (.int .i64 0), (.int .i64 0), (.int .i64 0)]) w <| keepX X w fun t17_2 w =>
                    boxW 32 (.agg #[(.int .i64 0), (.int .i64 0), (.int .i64 0), (.int .i64 0)]) w <| keepX X w fun t18_2 w =>
                    stW Try.prog 32 t17_2 t81 w <| keepW X w fun w =>
                    stW Try.prog 32 t18_2 t94 w fun w =>
                    k_2 t17_2 t18_2 w
                  ) <|
                  And (
                    boxW 32 (.agg #[(.int .i64 0), (.int .i64 0), (.int .i64 0), (.int .i64 0)]) w <| keepX X w fun t18_3 w =>
                    boxW 32 (.agg #[(.int .i64 0), (.int .i64 0), (.int .i64 0), (.int .i64 0)]) w <| keepX X w fun t17_3 w =>
                    stW Try.prog 32 t17_3 t81 w <| keepW X w fun w =>
                    stW Try.prog 32 t18_3 t94 w fun w =>
                    k_2 t17_3 t18_3 w
                  ) <|
                  True
                ) fun t17 t18 w =>
                Drew w fun w =>
                ld1 w t2 fun t95 =>
                iaS 4 t95 t71 fun t97 =>
                fa1 t97 1 fun t98 =>
                ld1 w t98 fun t99 =>
                fa1 t17 3 fun t100 =>
                ld1 w t100 fun t101 =>
                binQ Try.prog w .neq 3 false t99 t101 fun t102 =>
                Join (fun (k_4 : Value → Value → World → Prop) =>
                  condW t102 (
                    gd t11_2 true (fun k => k t67 w) w fun t105 w =>
                    gd t11_2 true (fun k => k t39 w) w fun t106 w =>
                    gd t11_2 true (fun k => binQ Try.prog w .sub 3 true t106 (.int .i64 1) fun v => k v w) w fun t107 w =>
                    gd t11_2 true (fun k => binQ Try.prog w .eql 3 false t105 t107 fun v => k v w) w fun t108 w =>
                    pickQ t11_2 t108 (.bool false) fun t109 =>
                    k_4 t109 (.bool false) w
                  ) (
                    k_4 t11_2 t12_2 w
                  )
                ) fun t11_4 t12_4 w =>
                Drew w fun w =>
                ld1 w t2 fun t110_2 =>
                iaS 4 t110_2 t71 fun t112_2 =>
                fa1 t112_2 2 fun t113_2 =>
                ld1 w t113_2 fun t114_2 =>
                fa1 t18 0 fun t115_2 =>
                ld1 w t115_2 fun t116_2 =>
                binQ Try.prog w .neq 3 false t114_2 t116_2 fun t117_2 =>
                Join (fun (k_5 : Value → Value → World → Prop) =>
                  condW t117_2 (
                    gd t11_4 true (fun k => k t60 w) w fun t120_2 w =>
                    gd t11_4 true (fun k => k t41 w) w fun t121_2 w =>
                    gd t11_4 true (fun k => binQ Try.prog w .sub 3 true t121_2 (.int .i64 1) fun v => k v w) w fun t122_2 w =>
                    gd t11_4 true (fun k => binQ Try.prog w .eql 3 false t120_2 t122_2 fun v => k v w) w fun t123_2 w =>
                    pickQ t11_4 t123_2 (.bool false) fun t124_2 =>
                    k_5 t124_2 (.bool false) w
                  ) (
                    k_5 t11_4 t12_4 w
                  )
                ) fun t11_5 t12_5 w =>
                binQ Try.prog w .add 3 true t67 (.int .i64 1) fun t125_4 =>
                next_3 t11_5 t12_5 t125_4 w
              ) (
                binQ Try.prog w .add 3 true t60 (.int .i64 1) fun t126 =>
                next_2 t11_2 t12_2 t126 w
              )
          ) (
            R (.returned (.tuple #[t11, t12, (.int .i64 0)])) w
          )
      )
  )

def A21 : Ann where
  live := fun
    | 0 => [44]
    | 2 => [11, 12, 60]
    | 4 => [11, 12, 67]
    | _ => []
  wr := fun
    | 0 => fun i => (Nat.ble 4 i && Nat.ble i 6) || Nat.beq i 10 || (Nat.ble 44 i && Nat.ble i 57)
    | 2 => fun i => (Nat.ble 11 i && Nat.ble i 18) || (Nat.ble 60 i && Nat.ble i 126)
    | 4 => fun i => (Nat.ble 11 i && Nat.ble i 12) || (Nat.ble 15 i && Nat.ble i 18) || (Nat.ble 67 i && Nat.ble i 125)
    | _ => fun _ => false
  sched := fun
    | 17 => (.cls (.take 0 (.take 1 (.take 2 (.take 3 (.take 4 (.take 5 (.take 6 (.take 7 (.take 8 (.take 9 (.take 10 (.take 11 (.take 12 (.take 13 (.take 14 (.take 15 (.take 16 (.take 17 (.take 18 (.take 19 (.take 20 (.take 21 (.take 22 (.alt 23 (.eff 24 (.eff 25 (.bar 26 .done))) (.alt 24 (.eff 23 (.eff 25 (.bar 26 .done))) .nomore))))))))))))))))))))))))))
    | 18 => (.take 0 (.take 1 (.take 2 (.take 3 (.take 4 (.take 5 (.take 6 (.take 7 .done))))))))
    | 21 => (.take 0 (.take 1 (.take 2 (.take 3 (.take 4 (.take 5 (.take 6 (.take 7 .done))))))))
    | _ => .done

set_option maxRecDepth 100000 in
theorem ok21 : (codeOk Try.f21.ntmps A21 (Try.f21.body.getD .skip) 0 && Nat.ble 2 Try.f21.ntmps) = true := by kernel_rfl
set_option maxRecDepth 100000 in
theorem lift21 {t0 t1 : Value} {w : World} {R : Ending → World → Prop} (h : S21 t0 t1 w R) : Calls Try.prog 21 #[t0, t1] w R :=
  calls_of_cw (fn := Try.f21) (c := Try.f21.body.getD .skip) A21 mixes Try.func21 (by kernel_rfl) ok21
    ((by kernel_rfl : (S21 t0 t1 w R) = cw Try.prog A21 (Try.f21.body.getD .skip) 0 (bodyQ Try.prog Try.f21 R) (frOf #[t0, t1]) w).mp h)

def S22 (t0 t1 : Value) (w : World) (R : Ending → World → Prop) : Prop :=
  callW Try.prog (.func (.func 35) #[] #[]) [t0] w fun t17 w =>
  unQ .not t17 fun t18 =>
  gd t18 false (fun k => k t1 w) w fun t20 w =>
  gd t18 false (fun k => ln1 t20 fun v => k v w) w fun t21 w =>
  gd t18 false (fun k => callW Try.prog (.func (.func 68) #[] #[]) [t21] w k) w fun t22 w =>
  gd t18 false (fun k => unQ .not t22 fun v => k v w) w fun t23 w =>
  pickQ t18 (.bool true) t23 fun t24 =>
  gd t24 false (fun k => k t1 w) w fun t26 w =>
  gd t24 false (fun k => iaS 1 t26 (.int .i64 0) fun v => k v w) w fun t27 w =>
  gd t24 false (fun k => ld1 w t27 fun v => k v w) w fun t28 w =>
  gd t24 false (fun k => ln1 t28 fun v => k v w) w fun t29 w =>
  gd t24 false (fun k => callW Try.prog (.func (.func 68) #[] #[]) [t29] w k) w fun t30 w =>
  gd t24 false (fun k => unQ .not t30 fun v => k v w) w fun t31 w =>
  pickQ t24 (.bool true) t31 fun t32 =>
  condW t32 (
    R (.returned (.tuple #[(.bool false), (.bool false), (.int .i64 2)])) w
  ) (
    iaS 1 t1 (.int .i64 0) fun t34 =>
    ld1 w t34 fun t35 =>
    ln1 t35 fun t36 =>
    ln1 t1 fun t38 =>
    Loop1 (.int .i64 0) w fun _ t9 w next =>
      binQ Try.prog w .lss 3 false t9 t38 fun t41 =>
      condW t41 (
        iaS 1 t1 t9 fun t46 =>
        ld1 w t46 fun t47 =>
        ln1 t47 fun t48 =>
        binQ Try.prog w .neq 3 false t48 t36 fun t50 =>
        condW t50 (
          R (.returned (.tuple #[(.bool false), (.bool false), (.int .i64 2)])) w
        ) (
          Loop1 (.int .i64 0) w fun _ t10 w next_2 =>
            binQ Try.prog w .lss 3 false t10 t36 fun t53 =>
            condW t53 (
              iaS 1 t1 t9 fun t58 =>
              ld1 w t58 fun t59 =>
              iaS 1 t59 t10 fun t61 =>
              ld1 w t61 fun t62 =>
              binQ Try.prog w .lss 3 true t62 (.int .i64 0) fun t63 =>
              gd t63 false (fun k => k t1 w) w fun t65 w =>
              gd t63 false (fun k => k t9 w) w fun t66 w =>
              gd t63 false (fun k => iaS 1 t65 t66 fun v => k v w) w fun t67 w =>
              gd t63 false (fun k => ld1 w t67 fun v => k v w) w fun t68 w =>
              gd t63 false (fun k => k t10 w) w fun t69 w =>
              gd t63 false (fun k => iaS 1 t68 t69 fun v => k v w) w fun t70 w =>
              gd t63 false (fun k => ld1 w t70 fun v => k v w) w fun t71 w =>
              gd t63 false (fun k => k t0 w) w fun t72 w =>
              gd t63 false (fun k => ln1 t72 fun v => k v w) w fun t73 w =>
              gd t63 false (fun k => binQ Try.prog w .geq 3 false t71 t73 fun v => k v w) w fun t74 w =>
              pickQ t63 (.bool true) t74 fun t75 =>
              condW t75 (
                R (.returned (.tuple #[(.bool false), (.bool false), (.int .i64 2)])) w
              ) (
                binQ Try.prog w .add 3 true t10 (.int .i64 1) fun t55 =>
                next_2 t55 w
              )
            ) (
              binQ Try.prog w .add 3 true t9 (.int .i64 1) fun t43 =>
              next t43 w
            )
        )
      ) (
        Loop3 (.bool true) (.bool true) (.int .i64 0) w fun _ t11 t12 t13 w next_3 =>
          binQ Try.prog w .lss 3 false t13 t38 fun t78 =>
          condW t78 (
            Loop3 t11 t12 (.int .i64 0) w fun _ t11_2 t12_2 t14 w next_4 =>
              binQ Try.prog w .lss 3 false t14 t36 fun t83 =>
              condW t83 (
                iaS 1 t1 t13 fun t89 =>
                ld1 w t89 fun t90 =>
                iaS 1 t90 t14 fun t92 =>
                ld1 w t92 fun t93 =>
                iaS 4 t0 t93 fun t94 =>
                ldN 4 w t94 fun t95 =>
                boxW 32 (.agg #[(.int .i64 0), (.int .i64 0), (.int .i64 0), (.int .i64 0)]) w fun t15 w =>
                stW Try.prog 32 t15 t95 w fun w =>
                Drew w fun w =>
                fa1 t15 1 fun t96 =>
                ld1 w t96 fun t97 =>
                iaS 1 t1 t13 fun t101 =>
                ld1 w t101 fun t102 =>
                binQ Try.prog w .add 3 true t14 (.int .i64 1) fun t104 =>
                binQ Try.prog w .rem 3 false t104 t36 fun t106 =>
                iaS 1 t102 t106 fun t107 =>
                ld1 w t107 fun t108 =>
                iaS 4 t0 t108 fun t109 =>
                fa1 t109 3 fun t110 =>
                ld1 w t110 fun t111 =>
                binQ Try.prog w .neq 3 false t97 t111 fun t112 =>
                Join (fun (k_3 : Value → Value → World → Prop) =>
                  condW t112 (
                    gd t11_2 true (fun k => k t14 w) w fun t115 w =>
                    gd t11_2 true (fun k => binQ Try.prog w .add 3 true t115 (.int .i64 1) fun v => k v w) w fun t116 w =>
                    gd t11_2 true (fun k => k t36 w) w fun t117 w =>
                    gd t11_2 true (fun k => binQ Try.prog w .eql 3 false t116 t117 fun v => k v w) w fun t118 w =>
                    pickQ t11_2 t118 (.bool false) fun t119 =>
                    k_3 t119 (.bool false) w
                  ) (
                    k_3 t11_2 t12_2 w
                  )
                ) fun t11_4 t12_4 w =>
                Drew w fun w =>
                fa1 t15 2 fun t120_2 =>
                ld1 w t120_2 fun t121_2 =>
                binQ Try.prog w .add 3 true t13 (.int .i64 1) fun t125_2 =>
                binQ Try.prog w .rem 3 false t125_2 t38 fun t127_2 =>
                iaS 1 t1 t127_2 fun t128_2 =>
                ld1 w t128_2 fun t129_2 =>
                iaS 1 t129_2 t14 fun t131_2 =>
                ld1 w t131_2 fun t132_2 =>
                iaS 4 t0 t132_2 fun t133_2 =>
                fa1 t133_2 0 fun t134_2 =>
                ld1 w t134_2 fun t135_2 =>
                binQ Try.prog w .neq 3 false t121_2 t135_2 fun t136_2 =>
                Join (fun (k_4 : Value → Value → World → Prop) =>
                  condW t136_2 (
                    gd t11_4 true (fun k => k t13 w) w fun t139_2 w =>
                    gd t11_4 true (fun k => binQ Try.prog w .add 3 true t139_2 (.int .i64 1) fun v => k v w) w fun t140_2 w =>
                    gd t11_4 true (fun k => k t38 w) w fun t141_2 w =>
                    gd t11_4 true (fun k => binQ Try.prog w .eql 3 false t140_2 t141_2 fun v => k v w) w fun t142_2 w =>
                    pickQ t11_4 t142_2 (.bool false) fun t143_2 =>
                    k_4 t143_2 (.bool false) w
                  ) (
                    k_4 t11_4 t12_4 w
                  )
                ) fun t11_5 t12_5 w =>
                binQ Try.prog w .add 3 true t14 (.int .i64 1) fun t85_4 =>
                next_4 t11_5 t12_5 t85_4 w
              ) (
                binQ Try.prog w .add 3 true t13 (.int .i64 1) fun t80 =>
                next_3 t11_2 t12_2 t80 w
              )
          ) (
            gd t11 true (fun k => k t12 w) w fun t147 w =>
            pickQ t11 t147 (.bool false) fun t148 =>
            R (.returned (.tuple #[t11, t148, (.int .i64 0)])) w
          )
      )
  )

def A22 : Ann where
  live := fun
    | 0 => [9]
    | 2 => [10]
    | 4 => [11, 12, 13]
    | 6 => [11, 12, 14]
    | _ => []
  wr := fun
    | 0 => fun i => (Nat.ble 4 i && Nat.ble i 6) || (Nat.ble 9 i && Nat.ble i 10) || (Nat.ble 39 i && Nat.ble i 75)
    | 2 => fun i => (Nat.ble 4 i && Nat.ble i 6) || Nat.beq i 10 || (Nat.ble 51 i && Nat.ble i 75)
    | 4 => fun i => (Nat.ble 11 i && Nat.ble i 15) || (Nat.ble 76 i && Nat.ble i 143)
    | 6 => fun i => (Nat.ble 11 i && Nat.ble i 12) || (Nat.ble 14 i && Nat.ble i 15) || (Nat.ble 81 i && Nat.ble i 143)
    | _ => fun _ => false
  sched := fun
    | 22 => (.take 0 (.take 1 (.take 2 (.take 3 (.take 4 (.take 5 (.take 6 (.take 7 (.take 8 (.take 9 (.take 10 (.take 11 (.take 12 (.take 13 (.take 14 (.take 15 (.take 16 .done)))))))))))))))))
    | 25 => (.take 0 (.take 1 (.take 2 (.take 3 (.take 4 (.take 5 (.take 6 (.take 7 (.take 8 (.take 9 (.take 10 (.take 11 (.take 12 (.take 13 (.take 14 (.take 15 (.take 16 .done)))))))))))))))))
    | _ => .done

set_option maxRecDepth 100000 in
theorem ok22 : (codeOk Try.f22.ntmps A22 (Try.f22.body.getD .skip) 0 && Nat.ble 2 Try.f22.ntmps) = true := by kernel_rfl
set_option maxRecDepth 100000 in
theorem lift22 {t0 t1 : Value} {w : World} {R : Ending → World → Prop} (h : S22 t0 t1 w R) : Calls Try.prog 22 #[t0, t1] w R :=
  calls_of_cw (fn := Try.f22) (c := Try.f22.body.getD .skip) A22 mixes Try.func22 (by kernel_rfl) ok22
    ((by kernel_rfl : (S22 t0 t1 w R) = cw Try.prog A22 (Try.f22.body.getD .skip) 0 (bodyQ Try.prog Try.f22 R) (frOf #[t0, t1]) w).mp h)

def S3 (t0 t1 t2 t3 : Value) (w : World) (R : Ending → World → Prop) : Prop :=
  ln1 t0 fun t14 =>
  binQ Try.prog w .gtr 3 true t14 (.int .i64 40) fun t15 =>
  gd t15 false (fun k => k t3 w) w fun t17 w =>
  gd t15 false (fun k => callW Try.prog (.func (.func 17) #[] #[]) [t17, (.int .i64 200)] w k) w fun t18 w =>
  gd t15 false (fun k => unQ .not t18 fun v => k v w) w fun t19 w =>
  pickQ t15 (.bool true) t19 fun t20 =>
  condW t20 (
    callW Try.prog (.func (.func 18) #[] #[]) [] w fun t21 w =>
    R (.returned t21) w
  ) (
    callW Try.prog (.func (.func 19) #[] #[]) [t0, t1, t2, t3] w fun t27 w =>
    exQ t27 0 fun t28 =>
    exQ t27 1 fun t29 =>
    callW Try.prog (.func (.func 20) #[] #[]) [t0, t1, t2, t3] w fun t35 w =>
    exQ t35 0 fun t36 =>
    exQ t35 1 fun t37 =>
    binQ Try.prog w .eql 4 false t28 t36 fun t40 =>
    gd t40 true (fun k => k t29 w) w fun t42 w =>
    gd t40 true (fun k => k t37 w) w fun t43 w =>
    gd t40 true (fun k => binQ Try.prog w .eql 26 false t42 t43 fun v => k v w) w fun t44 w =>
    pickQ t40 t44 (.bool false) fun t45 =>
    gd t45 true (fun k => callW Try.prog (.func (.func 18) #[] #[]) [] w k) w fun t47 w =>
    pickQ t45 t47 (.bool false) fun t48 =>
    R (.returned t48) w
  )

def A3 : Ann where
  live := fun _ => []
  wr := fun _ _ => false
  sched := fun _ => .done

set_option maxRecDepth 100000 in
theorem ok3 : (codeOk Try.f3.ntmps A3 (Try.f3.body.getD .skip) 0 && Nat.ble 4 Try.f3.ntmps) = true := by kernel_rfl
set_option maxRecDepth 100000 in
theorem lift3 {t0 t1 t2 t3 : Value} {w : World} {R : Ending → World → Prop} (h : S3 t0 t1 t2 t3 w R) : Calls Try.prog 3 #[t0, t1, t2, t3] w R :=
  calls_of_cw (fn := Try.f3) (c := Try.f3.body.getD .skip) A3 mixes Try.func3 (by kernel_rfl) ok3
    ((by kernel_rfl : (S3 t0 t1 t2 t3 w R) = cw Try.prog A3 (Try.f3.body.getD .skip) 0 (bodyQ Try.prog Try.f3 R) (frOf #[t0, t1, t2, t3]) w).mp h)

def S4 (t0 : Value) (w : World) (R : Ending → World → Prop) : Prop :=
  Join (fun (k_2 : Value → World → Prop) =>
    condW t0 (
      binQ Try.prog w .add 3 true (.int .i64 65535) (.int .i64 1) fun t10 =>
      k_2 t10 w
    ) (
      k_2 (.int .i64 65535) w
    )
  ) fun t3 w =>
  mkW Try.prog 23 t3 t3 w fun t12_2 w =>
  Loop1 (.int .i64 0) w fun _ t5_2 w next_2 =>
    binQ Try.prog w .lss 3 false t5_2 t3 fun t15_2 =>
    condW t15_2 (
      bsW Try.prog 30 2 [(0, (.int .i64 1)), (1, (.int .i64 1))] w fun t20_2 w =>
      iaS 1 t12_2 t5_2 fun t21_2 =>
      stW Try.prog 30 t21_2 t20_2 w fun w =>
      binQ Try.prog w .add 3 true t5_2 (.int .i64 1) fun t17_2 =>
      next_2 t17_2 w
    ) (
      bdQ Try.prog 32 [(2, (.int .i64 1))] fun t23_2 =>
      bsW Try.prog 22 1 [(0, t23_2)] w fun t24_2 w =>
      callW Try.prog (.func (.func 19) #[] #[]) [t24_2, (.int .i64 1), (.int .i64 2), t12_2] w fun t26_2 w =>
      exQ t26_2 0 fun t27_2 =>
      exQ t26_2 1 fun t28_2 =>
      condW t0 (
        unQ .not t27_2 fun t31_2 =>
        gd t31_2 true (fun k => k t28_2 w) w fun t33_2 w =>
        gd t31_2 true (fun k => binQ Try.prog w .eql 26 true t33_2 (.int .i64 3) fun v => k v w) w fun t34_2 w =>
        pickQ t31_2 t34_2 (.bool false) fun t35_2 =>
        gd t35_2 true (fun k => callW Try.prog (.func (.func 18) #[] #[]) [] w k) w fun t37_2 w =>
        pickQ t35_2 t37_2 (.bool false) fun t38_2 =>
        R (.returned t38_2) w
      ) (
        unQ .not t27_2 fun t40_2 =>
        gd t40_2 true (fun k => k t28_2 w) w fun t42_2 w =>
        gd t40_2 true (fun k => binQ Try.prog w .eql 26 true t42_2 (.int .i64 0) fun v => k v w) w fun t43_2 w =>
        pickQ t40_2 t43_2 (.bool false) fun t44_2 =>
        gd t44_2 true (fun k => callW Try.prog (.func (.func 18) #[] #[]) [] w k) w fun t46_2 w =>
        pickQ t44_2 t46_2 (.bool false) fun t47_2 =>
        R (.returned t47_2) w
      )
    )

def A4 : Ann where
  live := fun
    | 0 => [5]
    | _ => []
  wr := fun
    | 0 => fun i => Nat.beq i 5 || (Nat.ble 13 i && Nat.ble i 21)
    | _ => fun _ => false
  sched := fun _ => .done

set_option maxRecDepth 100000 in
theorem ok4 : (codeOk Try.f4.ntmps A4 (Try.f4.body.getD .skip) 0 && Nat.ble 1 Try.f4.ntmps) = true := by kernel_rfl
set_option maxRecDepth 100000 in
theorem lift4 {t0 : Value} {w : World} {R : Ending → World → Prop} (h : S4 t0 w R) : Calls Try.prog 4 #[t0] w R :=
  calls_of_cw (fn := Try.f4) (c := Try.f4.body.getD .skip) A4 mixes Try.func4 (by kernel_rfl) ok4
    ((by kernel_rfl : (S4 t0 w R) = cw Try.prog A4 (Try.f4.body.getD .skip) 0 (bodyQ Try.prog Try.f4 R) (frOf #[t0]) w).mp h)

def S5 (t0 t1 : Value) (w : World) (R : Ending → World → Prop) : Prop :=
  ln1 t0 fun t12 =>
  binQ Try.prog w .gtr 3 true t12 (.int .i64 40) fun t13 =>
  gd t13 false (fun k => k t1 w) w fun t15 w =>
  gd t13 false (fun k => callW Try.prog (.func (.func 17) #[] #[]) [t15, (.int .i64 20)] w k) w fun t16 w =>
  gd t13 false (fun k => unQ .not t16 fun v => k v w) w fun t17 w =>
  pickQ t13 (.bool true) t17 fun t18 =>
  condW t18 (
    callW Try.prog (.func (.func 18) #[] #[]) [] w fun t19 w =>
    R (.returned t19) w
  ) (
    callW Try.prog (.func (.func 21) #[] #[]) [t0, t1] w fun t23 w =>
    exQ t23 0 fun t24 =>
    exQ t23 1 fun t25 =>
    exQ t23 2 fun t26 =>
    callW Try.prog (.func (.func 22) #[] #[]) [t0, t1] w fun t30 w =>
    exQ t30 0 fun t31 =>
    exQ t30 1 fun t32 =>
    exQ t30 2 fun t33 =>
    binQ Try.prog w .eql 4 false t24 t31 fun t36 =>
    gd t36 true (fun k => k t25 w) w fun t38 w =>
    gd t36 true (fun k => k t32 w) w fun t39 w =>
    gd t36 true (fun k => binQ Try.prog w .eql 4 false t38 t39 fun v => k v w) w fun t40 w =>
    pickQ t36 t40 (.bool false) fun t41 =>
    gd t41 true (fun k => k t26 w) w fun t43 w =>
    gd t41 true (fun k => k t33 w) w fun t44 w =>
    gd t41 true (fun k => binQ Try.prog w .eql 26 false t43 t44 fun v => k v w) w fun t45 w =>
    pickQ t41 t45 (.bool false) fun t46 =>
    gd t46 true (fun k => callW Try.prog (.func (.func 18) #[] #[]) [] w k) w fun t48 w =>
    pickQ t46 t48 (.bool false) fun t49 =>
    R (.returned t49) w
  )

def A5 : Ann where
  live := fun _ => []
  wr := fun _ _ => false
  sched := fun _ => .done

set_option maxRecDepth 100000 in
theorem ok5 : (codeOk Try.f5.ntmps A5 (Try.f5.body.getD .skip) 0 && Nat.ble 2 Try.f5.ntmps) = true := by kernel_rfl
set_option maxRecDepth 100000 in
theorem lift5 {t0 t1 : Value} {w : World} {R : Ending → World → Prop} (h : S5 t0 t1 w R) : Calls Try.prog 5 #[t0, t1] w R :=
  calls_of_cw (fn := Try.f5) (c := Try.f5.body.getD .skip) A5 mixes Try.func5 (by kernel_rfl) ok5
    ((by kernel_rfl : (S5 t0 t1 w R) = cw Try.prog A5 (Try.f5.body.getD .skip) 0 (bodyQ Try.prog Try.f5 R) (frOf #[t0, t1]) w).mp h)

theorem fok85 : fnOk Try.prog 85 = true := by kernel_rfl
theorem fok21 : fnOk Try.prog 21 = true := by kernel_rfl
theorem fok22 : fnOk Try.prog 22 = true := by kernel_rfl
theorem fok3 : fnOk Try.prog 3 = true := by kernel_rfl
theorem fok4 : fnOk Try.prog 4 = true := by kernel_rfl
theorem fok5 : fnOk Try.prog 5 = true := by kernel_rfl
end Go.Proofs.Ytgalbokmgffhkaa
