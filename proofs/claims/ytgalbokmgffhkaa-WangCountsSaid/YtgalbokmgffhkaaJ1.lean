/- Boards, plainly: how the specification counts them cell by cell. No program. -/
import Derived.Test.YtgalbokmgffhkaaT1
set_option linter.all false
namespace Go.Wg

/-! ### sums -/
def tot {α : Type} (f : α → Nat) : List α → Nat
  | [] => 0
  | x :: l => f x + tot f l
theorem tot_append {α : Type} (f : α → Nat) : ∀ a b : List α, tot f (a ++ b) = tot f a + tot f b
  | [], b => by simp [tot]
  | x :: a, b => by simp only [List.cons_append, tot, tot_append f a b]; omega
theorem tot_flatMap {α β : Type} (f : β → Nat) (g : α → List β) : ∀ a : List α, tot f (a.flatMap g) = tot (fun x => tot f (g x)) a
  | [] => rfl
  | x :: a => by rw [List.flatMap_cons, tot_append, tot_flatMap f g a]; rfl
theorem tot_map {α β : Type} (f : β → Nat) (g : α → β) : ∀ a : List α, tot f (a.map g) = tot (fun x => f (g x)) a
  | [] => rfl
  | x :: a => by rw [List.map_cons]; simp only [tot, tot_map f g a]
theorem tot_congr {α : Type} {f g : α → Nat} : ∀ {a : List α}, (∀ x ∈ a, f x = g x) → tot f a = tot g a
  | [], _ => rfl
  | x :: a, h => by simp only [tot]; rw [h x (by simp), tot_congr fun y hy => h y (by simp [hy])]
theorem tot_zero {α : Type} {f : α → Nat} {a : List α} (h : ∀ x ∈ a, f x = 0) : tot f a = 0 := by
  induction a with
  | nil => rfl
  | cons x a ih => simp only [tot]; rw [h x (by simp), ih fun y hy => h y (by simp [hy])]
theorem tot_pos {α : Type} {f : α → Nat} {a : List α} : 0 < tot f a ↔ ∃ x ∈ a, 0 < f x := by
  induction a with
  | nil => simp [tot]
  | cons x a ih =>
    simp only [tot, List.mem_cons, exists_eq_or_imp, ← ih]
    omega
theorem tot_const {α : Type} : ∀ a : List α, tot (fun _ => 1) a = a.length
  | [] => rfl
  | _ :: a => by simp only [tot, tot_const a, List.length_cons]; omega
theorem tot_add {α : Type} (f g : α → Nat) : ∀ a : List α, tot (fun x => f x + g x) a = tot f a + tot g a
  | [] => rfl
  | x :: a => by simp only [tot, tot_add f g a]; omega
theorem tot_mul {α : Type} (f : α → Nat) (c : Nat) : ∀ a : List α, tot (fun x => f x * c) a = tot f a * c
  | [] => by simp [tot]
  | x :: a => by simp only [tot, tot_mul f c a, Nat.add_mul]
theorem tot_range_eq {f : Nat → Nat} {n i : Nat} (hi : i < n) (h : ∀ j, j < n → j ≠ i → f j = 0) : tot f (List.range n) = f i := by
  induction n with
  | zero => omega
  | succ n ih =>
    rw [List.range_succ, tot_append]
    simp only [tot]
    by_cases e : i = n
    · subst e
      rw [tot_zero fun j hj => h j (by have := List.mem_range.1 hj; omega) (by have := List.mem_range.1 hj; omega)]
      omega
    · rw [ih (by omega) fun j hj hji => h j (by omega) hji, h n (by omega) (by omega)]
      omega
/-- Over places, or over what stands there. -/
theorem tot_places (l : List Tile) (f : Tile → Nat) : tot f l = tot (fun i => f (tl l i)) (List.range l.length) := by
  have key : ∀ n, n ≤ l.length → tot f (l.take n) = tot (fun i => f (tl l i)) (List.range n) := by
    intro n
    induction n with
    | zero => intro _; simp [tot]
    | succ n ih =>
      intro hn
      have hlt : n < l.length := by omega
      rw [List.range_succ, tot_append, ← ih (by omega)]
      have : l.take (n + 1) = l.take n ++ [tl l n] := by rw [List.take_add_one, tl_get hlt]; rfl
      rw [this, tot_append]
      rfl
  have := key l.length (Nat.le_refl _)
  rwa [List.take_of_length_le (Nat.le_refl _)] at this

/-! ### the colours between rows -/
def lineB (l : List Tile) (c : Nat) : Bool := l.any fun t => decide (tN t = (c : Int)) || decide (tS t = (c : Int))
def lineL (l : List Tile) : List Int := ((List.range 8).filter (lineB l)).map fun c : Nat => (c : Int)
theorem mem_line {l : List Tile} (hl : ∀ t ∈ l, colsB t = true) {t : Tile} (ht : t ∈ l) : tN t ∈ lineL l ∧ tS t ∈ lineL l := by
  have hr := cols_range (hl t ht)
  simp only [lineL, List.mem_map, List.mem_filter, List.mem_range, lineB, List.any_eq_true, Bool.or_eq_true, decide_eq_true_eq]
  exact ⟨⟨(tN t).toNat, ⟨by omega, t, ht, .inl (by omega)⟩, by omega⟩, ⟨(tS t).toNat, ⟨by omega, t, ht, .inr (by omega)⟩, by omega⟩⟩
theorem line_len (l : List Tile) : (lineL l).length ≤ 8 := by
  rw [lineL, List.length_map]
  have := List.length_filter_le (lineB l) (List.range 8)
  simpa using this
theorem line_pos {l : List Tile} (hs : IsSet l) : 0 < (lineL l).length := by
  have h0 := hs.pos
  exact List.length_pos_of_mem (mem_line hs.cols (List.getElem_mem (show 0 < l.length by omega))).1
def lidx (l : List Tile) (c : Int) : Nat := (lineL l).idxOf c
theorem lidx_lt {l : List Tile} {c : Int} (h : c ∈ lineL l) : lidx l c < (lineL l).length := List.idxOf_lt_length_iff.2 h
theorem lidx_get {l : List Tile} {c : Int} (h : c ∈ lineL l) : (lineL l).getD (lidx l c) 0 = c := by
  have hlt := lidx_lt h
  rw [List.getD_eq_getElem?_getD, List.getElem?_eq_getElem hlt]
  exact List.getElem_idxOf hlt

/-! ### states: a digit for each column, and the East on the left -/
def encD (n : Nat) : List Nat → Nat
  | [] => 0
  | a :: d => a + n * encD n d
def encS (n : Nat) (d : List Nat) (e : Nat) : Nat := 8 * encD n d + e
theorem encD_lt {n : Nat} : ∀ {d : List Nat}, (∀ a ∈ d, a < n) → encD n d < n ^ d.length
  | [], _ => by simp [encD]
  | a :: d, h => by
    have h1 := encD_lt (n := n) (d := d) fun b hb => h b (by simp [hb])
    have h2 := h a (by simp)
    rw [encD, List.length_cons, Nat.pow_succ, Nat.mul_comm (n ^ d.length) n]
    have : n * (encD n d + 1) ≤ n * n ^ d.length := Nat.mul_le_mul_left n h1
    rw [Nat.mul_add] at this
    omega
theorem encD_digit {n : Nat} : ∀ {d : List Nat} {x : Nat}, (∀ a ∈ d, a < n) → x < d.length → encD n d / n ^ x % n = d.getD x 0
  | a :: d, 0, h, _ => by
    have h2 := h a (by simp)
    rw [encD, Nat.pow_zero, Nat.div_one, Nat.add_mul_mod_self_left, Nat.mod_eq_of_lt h2]
    rfl
  | a :: d, x + 1, h, hx => by
    have h2 := h a (by simp)
    have hn : 0 < n := by omega
    rw [encD, Nat.pow_succ, Nat.mul_comm (n ^ x) n, ← Nat.div_div_eq_div_mul, Nat.add_mul_div_left _ _ hn, Nat.div_eq_of_lt h2, Nat.zero_add]
    rw [encD_digit (fun b hb => h b (by simp [hb])) (by simpa using hx)]
    rfl
theorem encD_set {n a : Nat} : ∀ {d : List Nat} {x : Nat}, x < d.length → encD n (d.set x a) + d.getD x 0 * n ^ x = encD n d + a * n ^ x
  | b :: d, 0, _ => by simp [encD]; omega
  | b :: d, x + 1, hx => by
    have := encD_set (n := n) (a := a) (d := d) (x := x) (by simpa using hx)
    simp only [List.set_cons_succ, encD, List.getD_cons_succ, Nat.pow_succ]
    have e1 : n * (encD n (d.set x a) + d.getD x 0 * n ^ x) = n * (encD n d + a * n ^ x) := by rw [this]
    rw [Nat.mul_add, Nat.mul_add] at e1
    have e2 : ∀ b, n * (b * n ^ x) = b * (n ^ x * n) := fun b => by rw [Nat.mul_comm n, Nat.mul_assoc]
    rw [e2, e2] at e1
    omega
theorem encD_ge {n : Nat} : ∀ {d : List Nat} {x : Nat}, x < d.length → d.getD x 0 * n ^ x ≤ encD n d
  | b :: d, 0, _ => by simp [encD]
  | b :: d, x + 1, hx => by
    have := encD_ge (n := n) (d := d) (x := x) (by simpa using hx)
    simp only [encD, List.getD_cons_succ, Nat.pow_succ]
    have e1 := Nat.mul_le_mul_left n this
    have e2 : n * (d.getD x 0 * n ^ x) = d.getD x 0 * (n ^ x * n) := by rw [Nat.mul_comm n, Nat.mul_assoc]
    omega
theorem encD_zero (n w : Nat) : encD n (List.replicate w 0) = 0 := by
  induction w with
  | zero => rfl
  | succ w ih => rw [List.replicate_succ, encD, ih]; simp

/-- What a state's digit is. -/
def aboveS (l : List Tile) (w p s : Nat) : Nat := s / ((lineL l).length ^ (p % w) * 8) % (lineL l).length
def misfit (l : List Tile) (w p s : Nat) (t : Tile) : Prop := (w ≤ p ∧ (lineL l).getD (aboveS l w p s) 0 ≠ tN t) ∨ (0 < p % w ∧ ((s % 8 : Nat) : Int) ≠ tW t)
instance (l : List Tile) (w p s : Nat) (t : Tile) : Decidable (misfit l w p s t) := inferInstanceAs (Decidable (_ ∨ _))
/-- The state behind a tile. -/
def putM (l : List Tile) (w p s : Nat) (t : Tile) : Option Nat :=
  if misfit l w p s t then none
  else some (s - aboveS l w p s * ((lineL l).length ^ (p % w) * 8) + lidx l (tS t) * ((lineL l).length ^ (p % w) * 8) - s % 8 + (tE t).toNat)

theorem put_enc {l : List Tile} (hl : ∀ t ∈ l, colsB t = true) {w p e : Nat} {d : List Nat} {t : Tile} (ht : t ∈ l) (hd : d.length = w) (hw : 0 < w) (hdn : ∀ a ∈ d, a < (lineL l).length) (he : e < 8) :
    putM l w p (encS (lineL l).length d e) t = if (w ≤ p ∧ (lineL l).getD (d.getD (p % w) 0) 0 ≠ tN t) ∨ (0 < p % w ∧ (e : Int) ≠ tW t) then none else some (encS (lineL l).length (d.set (p % w) (lidx l (tS t))) (tE t).toNat) := by
  have hx : p % w < d.length := by rw [hd]; exact Nat.mod_lt _ hw
  have hdig := encD_digit hdn hx
  have hab : aboveS l w p (encS (lineL l).length d e) = d.getD (p % w) 0 := by
    rw [aboveS, encS, Nat.mul_comm ((lineL l).length ^ (p % w)) 8, ← Nat.div_div_eq_div_mul, Nat.mul_add_div (by omega), Nat.div_eq_of_lt he, Nat.add_zero]
    exact hdig
  have hmod : encS (lineL l).length d e % 8 = e := by rw [encS, Nat.mul_add_mod, Nat.mod_eq_of_lt he]
  have hset := encD_set (n := (lineL l).length) (a := lidx l (tS t)) hx
  have hge := encD_ge (n := (lineL l).length) hx
  have e8 : ∀ a, a * ((lineL l).length ^ (p % w) * 8) = 8 * (a * (lineL l).length ^ (p % w)) := fun a => by rw [← Nat.mul_assoc, Nat.mul_comm]
  have hmis : misfit l w p (encS (lineL l).length d e) t ↔ ((w ≤ p ∧ (lineL l).getD (d.getD (p % w) 0) 0 ≠ tN t) ∨ (0 < p % w ∧ (e : Int) ≠ tW t)) := by
    unfold misfit
    rw [hab, hmod]
  unfold putM
  by_cases hc : misfit l w p (encS (lineL l).length d e) t
  · rw [if_pos hc, if_pos (hmis.1 hc)]
  · rw [if_neg hc, if_neg fun h => hc (hmis.2 h), hab, hmod, e8, e8]
    congr 1
    unfold encS
    omega

theorem getD_set_ne {d : List Nat} {x j a : Nat} (h : x ≠ j) : (d.set x a).getD j 0 = d.getD j 0 := by
  rw [List.getD_eq_getElem?_getD, List.getD_eq_getElem?_getD, List.getElem?_set_ne h]

/-- In how many ways a board goes on, q cells being left. -/
def Wq (l : List Tile) (w h : Nat) : Nat → Nat → Nat
  | 0, _ => 1
  | q + 1, s => tot (fun t => match putM l w (w * h - (q + 1)) s t with
    | some s' => Wq l w h q s'
    | none => 0) l

/-- Does the row lie under these colours, from column x on? -/
def matchN (l : List Tile) (d : List Nat) (x w : Nat) (r : List Nat) : Prop := ∀ j, x ≤ j → j < w → (lineL l).getD (d.getD j 0) 0 = tN (tl l (r.getD j 0))
instance (l : List Tile) (d : List Nat) (x w : Nat) (r : List Nat) : Decidable (matchN l d x w r) :=
  if h : ∀ j ∈ List.range w, x ≤ j → (lineL l).getD (d.getD j 0) 0 = tN (tl l (r.getD j 0)) then .isTrue fun j hx hj => h j (List.mem_range.2 hj) hx
  else .isFalse fun g => h fun j hj hx => g j hx (List.mem_range.1 hj)
def endE (l : List Tile) (r : List Nat) : Nat := (tE (tl l (r.getLastD 0))).toNat
def digS (l : List Tile) (r : List Nat) : List Nat := (souths l r).map (lidx l)

theorem exts_len {l : List Tile} {m : Nat} {r q : List Nat} (h : q ∈ exts l m r) : q.length = r.length + m := by
  obtain ⟨s, rfl, hs, _⟩ := (mem_exts m r q).1 h
  simp [hs]

/-- The rest of a row, cell by cell and tile by tile. -/
theorem row_ways {l : List Tile} (hs : IsSet l) {w h k y : Nat} (hw : 0 < w) (hy : y + 1 + k = h) : ∀ (m x : Nat) (r d : List Nat) (e : Nat), x + m = w → r.length = x → (∀ i ∈ r, i < l.length) → d.length = w → (∀ a ∈ d, a < (lineL l).length) → e < 8 → (0 < x → e = endE l r) →
    Wq l w h (k * w + m) (encS (lineL l).length d e) = tot (fun q => if y = 0 ∨ matchN l d x w q then Wq l w h (k * w) (encS (lineL l).length (d.take x ++ (digS l q).drop x) (endE l q)) else 0) (exts l m r)
  | 0, x, r, d, e, hxm, hr, hrl, hd, hdn, he, hre => by
    have hm : y = 0 ∨ matchN l d x w r := .inr fun j h1 h2 => by omega
    have e1 : d.take x = d := List.take_of_length_le (by omega)
    have e2 : (digS l r).drop x = [] := List.drop_eq_nil_of_le (by simp [digS, souths]; omega)
    simp only [exts, tot]
    rw [if_pos hm, e1, e2, List.append_nil, hre (by omega)]
    simp only [Nat.add_zero]
  | m + 1, x, r, d, e, hxm, hr, hrl, hd, hdn, he, hre => by
    have hxw : x < w := by omega
    have hp : w * h - (k * w + m + 1) = y * w + x := by
      have : w * h = y * w + w + k * w := by rw [← hy, Nat.mul_comm, Nat.add_mul, Nat.add_mul, Nat.one_mul]
      omega
    have hpm : (y * w + x) % w = x := by rw [Nat.add_comm, Nat.add_mul_mod_self_right, Nat.mod_eq_of_lt hxw]
    have hpw : (w ≤ y * w + x) ↔ ¬ y = 0 := by
      constructor
      · intro h1 h2; subst h2; omega
      · intro h1
        have : 1 * w ≤ y * w := Nat.mul_le_mul_right w (by omega)
        omega
    show tot (fun t => match putM l w (w * h - (k * w + m + 1)) (encS (lineL l).length d e) t with
      | some s' => Wq l w h (k * w + m) s'
      | none => 0) l = _
    rw [hp, tot_places, exts, tot_flatMap]
    refine tot_congr fun i hi => ?_
    have hil := List.mem_range.1 hi
    have htm : tl l i ∈ l := by unfold tl; exact getD_mem hil
    have hcr := cols_range (hs.cols _ htm)
    rw [put_enc hs.cols htm hd hw hdn he, hpm]
    have hfit : fits l r i = true ↔ ¬ (0 < x ∧ (e : Int) ≠ tW (tl l i)) := by
      unfold fits
      simp only [Bool.or_eq_true, decide_eq_true_eq]
      by_cases hx0 : x = 0
      · have : r = [] := List.length_eq_zero_iff.1 (by omega)
        simp [this, hx0]
      · have hne : r ≠ [] := fun h0 => hx0 (by rw [← hr, h0]; rfl)
        have hel := hre (by omega)
        have hlast : r.getLastD 0 < l.length := by
          refine hrl _ ?_
          rw [List.getLastD_eq_getLast?, List.getLast?_eq_some_getLast hne]
          exact List.getLast_mem hne
        have hlc := cols_range (hs.cols (tl l (r.getLastD 0)) (by unfold tl; exact getD_mem hlast))
        unfold endE at hel
        constructor
        · rintro (h1 | h1)
          · exact absurd h1 hne
          · rintro ⟨_, h2⟩; exact h2 (by omega)
        · intro h1
          right
          by_cases h2 : (e : Int) = tW (tl l i)
          · omega
          · exact absurd ⟨by omega, h2⟩ h1
    by_cases hf : fits l r i = true
    case neg =>
      rw [if_neg hf, if_pos (.inr (Classical.byContradiction fun h1 => hf (hfit.2 h1)))]
      rfl
    rw [if_pos hf]
    have hq : ∀ q ∈ exts l m (r ++ [i]), q.length = w ∧ q.getD x 0 = i := fun q hq => by
      obtain ⟨s, rfl, hs1, _⟩ := (mem_exts m (r ++ [i]) q).1 hq
      refine ⟨by simp; omega, ?_⟩
      rw [List.getD_eq_getElem?_getD, List.append_assoc, List.getElem?_append_right (by omega), hr, Nat.sub_self]
      rfl
    by_cases hn : y = 0 ∨ (lineL l).getD (d.getD x 0) 0 = tN (tl l i)
    · have hput : ¬ ((w ≤ y * w + x ∧ (lineL l).getD (d.getD x 0) 0 ≠ tN (tl l i)) ∨ (0 < x ∧ (e : Int) ≠ tW (tl l i))) := by
        rintro (⟨h1, h2⟩ | h1)
        · rcases hn with h3 | h3
          · exact (hpw.1 h1) h3
          · exact h2 h3
        · exact (hfit.1 hf) h1
      rw [if_neg hput]
      dsimp only
      rw [row_ways hs hw hy m (x + 1) (r ++ [i]) (d.set x (lidx l (tS (tl l i)))) (tE (tl l i)).toNat (by omega) (by simp [hr]) (fun j hj => by
        rcases List.mem_append.1 hj with h1 | h1
        · exact hrl j h1
        · simp at h1; rw [h1]; exact hil) (by simp [hd]) (fun a ha => by
        rcases List.mem_or_eq_of_mem_set ha with h1 | h1
        · exact hdn a h1
        · rw [h1]; exact lidx_lt (mem_line hs.cols htm).2) (by omega) (fun _ => by simp [endE])]
      refine tot_congr fun q hqm => ?_
      obtain ⟨hql, hqx⟩ := hq q hqm
      have hmm : (y = 0 ∨ matchN l (d.set x (lidx l (tS (tl l i)))) (x + 1) w q) ↔ (y = 0 ∨ matchN l d x w q) := by
        constructor
        · rintro (h1 | h1)
          · exact .inl h1
          · rcases hn with h2 | h2
            · exact .inl h2
            · refine .inr fun j h3 h4 => ?_
              by_cases hjx : j = x
              · subst hjx; rw [hqx]; exact h2
              · have := h1 j (by omega) h4
                rwa [getD_set_ne (by omega)] at this
        · rintro (h1 | h1)
          · exact .inl h1
          · refine .inr fun j h3 h4 => ?_
            rw [getD_set_ne (by omega)]
            exact h1 j (by omega) h4
      have hdd : (d.set x (lidx l (tS (tl l i)))).take (x + 1) ++ (digS l q).drop (x + 1) = d.take x ++ (digS l q).drop x := by
        have hxd : x < (d.set x (lidx l (tS (tl l i)))).length := by simp; omega
        rw [List.take_add_one, List.getElem?_eq_getElem hxd, List.getElem_set_self, List.take_set_of_le (Nat.le_refl _)]
        have hxq : x < (digS l q).length := by simp [digS, souths]; omega
        rw [List.drop_eq_getElem_cons hxq]
        have hxq' : x < q.length := by omega
        have : (digS l q)[x] = lidx l (tS (tl l i)) := by
          have h5 : q[x] = i := by
            rw [List.getD_eq_getElem?_getD, List.getElem?_eq_getElem hxq'] at hqx
            exact hqx
          simp [digS, souths, h5]
        rw [this]
        simp
      by_cases hc : y = 0 ∨ matchN l d x w q
      · rw [if_pos hc, if_pos (hmm.2 hc), hdd]
      · rw [if_neg hc, if_neg fun h1 => hc (hmm.1 h1)]
    · have hput : (w ≤ y * w + x ∧ (lineL l).getD (d.getD x 0) 0 ≠ tN (tl l i)) ∨ (0 < x ∧ (e : Int) ≠ tW (tl l i)) := by
        left
        refine ⟨hpw.2 fun h1 => hn (.inl h1), fun h1 => hn (.inr h1)⟩
      rw [if_pos hput]
      symm
      refine tot_zero fun q hqm => ?_
      obtain ⟨hql, hqx⟩ := hq q hqm
      rw [if_neg]
      rintro (h1 | h1)
      · exact hn (.inl h1)
      · exact hn (.inr (by have := h1 x (Nat.le_refl _) hxw; rwa [hqx] at this))

end Go.Wg
