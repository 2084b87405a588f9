/- Rows, plainly: what is found, in order, without twins, is what the specification lists. -/
import Derived.Test.YtgalbokmgffhkaaE1
import Derived.Test.YtgalbokmgffhkaaB5
import Derived.Lib.SlicesCompact
set_option linter.all false
namespace Go.Proofs.Ytgalbokmgffhkaa
open Go.Wg

/-! ### ascending lists -/
theorem asc_eq : ∀ {a b : List Int}, a.Pairwise (· < ·) → b.Pairwise (· < ·) → (∀ x, x ∈ a ↔ x ∈ b) → a = b
  | [], [], _, _, _ => rfl
  | [], y :: b, _, _, h => absurd ((h y).2 (by simp)) (by simp)
  | x :: a, [], _, _, h => absurd ((h x).1 (by simp)) (by simp)
  | x :: a, y :: b, ha, hb, h => by
    have ha' := List.pairwise_cons.1 ha
    have hb' := List.pairwise_cons.1 hb
    have hxy : x = y := by
      rcases List.mem_cons.1 ((h x).1 (by simp)) with e | e
      · exact e
      · rcases List.mem_cons.1 ((h y).2 (by simp)) with e' | e'
        · exact e'.symm
        · have := hb'.1 x e
          have := ha'.1 y e'
          omega
    subst hxy
    rw [asc_eq ha'.2 hb'.2 fun z => ?_]
    constructor
    · intro hz
      rcases List.mem_cons.1 ((h z).1 (by simp [hz])) with e | e
      · have := ha'.1 z hz
        omega
      · exact e
    · intro hz
      rcases List.mem_cons.1 ((h z).2 (by simp [hz])) with e | e
      · have := hb'.1 z hz
        omega
      · exact e

/-- Without twins in a row. -/
def ddA : Int → List Int → List Int
  | _, [] => []
  | p, y :: l => if y = p then ddA p l else y :: ddA y l
theorem ddA_mem {p : Int} : ∀ {l : List Int} {p : Int} {x : Int}, x ∈ ddA p l → x ∈ l
  | y :: l, p, x, h => by
    rw [ddA] at h
    split at h
    · exact List.mem_cons_of_mem _ (ddA_mem (p := p) h)
    · rcases List.mem_cons.1 h with e | e
      · rw [e]; simp
      · exact List.mem_cons_of_mem _ (ddA_mem (p := p) e)

section
open Go.Lib
theorem keeps_head (x : Int) (l : List Int) : keeps (x :: l).toArray 0 = true := by simp [keeps]
theorem comp_mem {zs : List Int} (x : Int) : x ∈ compact zs ↔ x ∈ zs := by
  unfold compact compactUpTo
  simp only [List.mem_map, List.mem_filter, List.mem_range]
  constructor
  · rintro ⟨j, ⟨hj, _⟩, rfl⟩
    have : zs.toArray[j]! = zs[j] := by simp [hj]
    rw [this]
    exact List.getElem_mem hj
  · intro hx
    -- the first place that holds it
    have hlt := List.idxOf_lt_length_iff.2 hx
    have hg : zs[zs.idxOf x] = x := List.getElem_idxOf hlt
    refine ⟨zs.idxOf x, ⟨hlt, ?_⟩, by simp [hlt, hg]⟩
    unfold keeps
    rw [decide_eq_true_eq]
    by_cases h0 : zs.idxOf x = 0
    · exact .inl h0
    · right
      have hlt' : zs.idxOf x - 1 < zs.length := by omega
      have e1 : zs.toArray[zs.idxOf x]! = x := by simp [hlt, hg]
      have e2 : zs.toArray[zs.idxOf x - 1]! = zs[zs.idxOf x - 1] := by simp [hlt']
      rw [e1, e2]
      intro e
      have hb := List.not_of_lt_findIdx (p := fun y => y == x) (xs := zs) (i := zs.idxOf x - 1) (by show _ < zs.idxOf x; omega)
      simp at hb
      exact hb e.symm
theorem comp_asc {zs : List Int} (hz : zs.Pairwise (· ≤ ·)) : (compact zs).Pairwise (· < ·) := by
  unfold compact compactUpTo
  rw [List.pairwise_map]
  have hr : ((List.range zs.length).filter (keeps zs.toArray)).Pairwise (· < ·) := List.Pairwise.filter _ (List.pairwise_lt_range)
  refine List.Pairwise.imp_of_mem ?_ hr
  intro i j hi hj hij
  simp only [List.mem_filter, List.mem_range] at hi hj
  have e1 : zs.toArray[i]! = zs[i]'hi.1 := by simp [hi.1]
  have e2 : zs.toArray[j]! = zs[j]'hj.1 := by simp [hj.1]
  have hj1 : j - 1 < zs.length := by omega
  have e3 : zs.toArray[j - 1]! = zs[j - 1]'hj1 := by simp [hj1]
  have hk := hj.2
  unfold keeps at hk
  rw [decide_eq_true_eq, e2, e3] at hk
  rw [e1, e2]
  have hpw := List.pairwise_iff_getElem.1 hz
  have h1 : zs[i]'hi.1 ≤ zs[j - 1]'hj1 := by
    by_cases e : i = j - 1
    · subst e; exact Int.le_refl _
    · exact hpw i (j - 1) hi.1 hj1 (by omega)
  have h2 := hpw (j - 1) j hj1 hj.1 (by omega)
  rcases hk with h | h
  · omega
  · omega
end

/-! ### colours and their number -/
theorem code_push' (c : List Int) (x : Int) : code (c ++ [x]) = code c * 8 + x := code_push c x
theorem colsL_code : ∀ (n : Nat) (c : List Int), c.length = n → (∀ x ∈ c, 0 ≤ x ∧ x ≤ 7) → colsL n (code c) = c
  | 0, c, h, _ => by
    have : c = [] := List.length_eq_zero_iff.1 h
    subst this; rfl
  | n + 1, c, h, hc => by
    have hne : c ≠ [] := fun e => by rw [e] at h; simp at h
    have hsplit := List.dropLast_concat_getLast hne
    have hx := hc (c.getLast hne) (List.getLast_mem hne)
    have hd : ∀ x ∈ c.dropLast, 0 ≤ x ∧ x ≤ 7 := fun x hx => hc x (List.dropLast_subset _ hx)
    have hl : c.dropLast.length = n := by simp; omega
    have hcode : code c = code c.dropLast * 8 + c.getLast hne := by
      conv => lhs; rw [← hsplit]
      exact code_push _ _
    rw [colsL, hcode]
    have e1 : (code c.dropLast * 8 + c.getLast hne) / 8 = code c.dropLast := by omega
    have e2 : (code c.dropLast * 8 + c.getLast hne) % 8 = c.getLast hne := by omega
    rw [e1, e2, colsL_code n _ hl hd]
    exact hsplit

/-- The specification's lists come in order. -/
theorem rfrom_asc {l : List Tile} {nn : Option (List Int)} : ∀ (k : Nat) (s : List Int) (e : Nat), (∀ x ∈ s, 0 ≤ x ∧ x ≤ 7) → ((rfrom l nn k s e).map code).Pairwise (· < ·) ∧ ∀ r ∈ rfrom l nn k s e, code s * 8 ^ k ≤ code r ∧ code r < (code s + 1) * 8 ^ k
  | 0, s, e, _ => by
    refine ⟨by simp [rfrom], fun r hr => ?_⟩
    simp [rfrom] at hr
    rw [hr]
    simp
    omega
  | k + 1, s, e, hs => by
    have hp : (0 : Int) < 8 ^ k := Int.pow_pos (by omega)
    have one : ∀ c, c < 8 → ∀ x ∈ s ++ [((c : Nat) : Int)], 0 ≤ x ∧ x ≤ 7 := fun c hc x hx => by
      rcases List.mem_append.1 hx with h | h
      · exact hs x h
      · simp at h; omega
    have part : ∀ c, c < 8 → ∀ r ∈ (if nextE nn s.length e c l = 0 then [] else rfrom l nn k (s ++ [(c : Int)]) (nextE nn s.length e c l)), (code s * 8 + c) * 8 ^ k ≤ code r ∧ code r < (code s * 8 + c + 1) * 8 ^ k := fun c hc r hr => by
      split at hr
      · cases hr
      · have := (rfrom_asc (l := l) (nn := nn) k (s ++ [(c : Int)]) (nextE nn s.length e c l) (one c hc)).2 r hr
        rwa [code_push] at this
    have partAsc : ∀ c, c < 8 → ((if nextE nn s.length e c l = 0 then [] else rfrom l nn k (s ++ [(c : Int)]) (nextE nn s.length e c l)).map code).Pairwise (· < ·) := fun c hc => by
      split
      · simp
      · exact (rfrom_asc (l := l) (nn := nn) k (s ++ [(c : Int)]) (nextE nn s.length e c l) (one c hc)).1
    have pre : ∀ n, n ≤ 8 → (((List.range n).flatMap fun c => if nextE nn s.length e c l = 0 then [] else rfrom l nn k (s ++ [(c : Int)]) (nextE nn s.length e c l)).map code).Pairwise (· < ·) ∧ ∀ r ∈ (List.range n).flatMap (fun c => if nextE nn s.length e c l = 0 then [] else rfrom l nn k (s ++ [(c : Int)]) (nextE nn s.length e c l)), code s * 8 * 8 ^ k ≤ code r ∧ code r < (code s * 8 + n) * 8 ^ k := by
      intro n
      induction n with
      | zero => intro _; simp
      | succ n ih =>
        intro hn
        obtain ⟨i1, i2⟩ := ih (by omega)
        rw [List.range_succ, List.flatMap_append]
        simp only [List.flatMap_cons, List.flatMap_nil, List.append_nil]
        have hn8 : n < 8 := by omega
        refine ⟨?_, fun r hr => ?_⟩
        · rw [List.map_append, List.pairwise_append]
          refine ⟨i1, partAsc n hn8, fun a ha b hb => ?_⟩
          obtain ⟨r, hr, rfl⟩ := List.mem_map.1 ha
          obtain ⟨q, hq, rfl⟩ := List.mem_map.1 hb
          have h1 := (i2 r hr).2
          have h2 := (part n hn8 q hq).1
          omega
        · have e1 : (code s * 8 + ((n + 1 : Nat) : Int)) * 8 ^ k = (code s * 8 + n) * 8 ^ k + 8 ^ k := by
            rw [show (code s * 8 + ((n + 1 : Nat) : Int)) = (code s * 8 + n) + 1 by omega, Int.add_mul _ 1, Int.one_mul]
          have e2 : (code s * 8 + n + 1) * 8 ^ k = (code s * 8 + n) * 8 ^ k + 8 ^ k := by rw [Int.add_mul _ 1, Int.one_mul]
          have e3 : (code s * 8 + (n : Int)) * 8 ^ k = code s * 8 * 8 ^ k + n * 8 ^ k := Int.add_mul _ _ _
          have e4 : 0 ≤ (n : Int) * 8 ^ k := Int.mul_nonneg (by omega) (by omega)
          rcases List.mem_append.1 hr with h | h
          · have := i2 r h
            rw [e1]
            omega
          · have := part n hn8 r h
            rw [e1]
            rw [e2] at this
            omega
    obtain ⟨p1, p2⟩ := pre 8 (by omega)
    refine ⟨p1, fun r hr => ?_⟩
    have := p2 r hr
    have e1 : (8 : Int) ^ (k + 1) = 8 * 8 ^ k := by rw [Int.pow_succ, Int.mul_comm]
    rw [e1, ← Int.mul_assoc, ← Int.mul_assoc, Int.add_mul, Int.one_mul]
    exact ⟨this.1, by have := this.2; simpa using this⟩

/-- What the program finds. -/
def foundL (L : List Line) (c : Int) : List Int := (L.filter fun x => decide (x.2.1 = c)).map fun x => x.2.2.1

theorem rows_eq {l : List Tile} (hl : ∀ t ∈ l, colsB t = true) {n : List Int} (hn : ∀ x ∈ n, 0 ≤ x ∧ x ≤ 7) :
    (Go.Lib.compact ((foundL (linesL l n.length) (code n)).mergeSort fun x y => decide (x ≤ y))).map (colsL n.length) = rfrom l (some n) n.length [] 255 := by
  have hrow : ∀ s ∈ rfrom l (some n) n.length [] 255, s.length = n.length ∧ ∀ x ∈ s, 0 ≤ x ∧ x ≤ 7 := fun s hs => by
    obtain ⟨r, hr, _, rfl⟩ := (mem_under hl).1 hs
    obtain ⟨h1, h2, _⟩ := mem_rowsL.1 hr
    refine ⟨by simp [souths, h1], fun x hx => ?_⟩
    simp only [souths, List.mem_map] at hx
    obtain ⟨i, hi, rfl⟩ := hx
    exact (cols_range (hl (tl l i) (by unfold tl; exact getD_mem (h2 i hi)))).2.2.1
  have key : Go.Lib.compact ((foundL (linesL l n.length) (code n)).mergeSort fun x y => decide (x ≤ y)) = (rfrom l (some n) n.length [] 255).map code := by
    refine asc_eq (comp_asc ?_) (rfrom_asc n.length [] 255 (by simp)).1 fun x => ?_
    · have := List.pairwise_mergeSort (le := fun x y : Int => decide (x ≤ y)) (fun a b c h1 h2 => by simp only [decide_eq_true_eq] at *; omega) (fun a b => by simp only [Bool.or_eq_true, decide_eq_true_eq]; omega) (foundL (linesL l n.length) (code n))
      exact this.imp fun h => of_decide_eq_true h
    · rw [comp_mem, List.mem_mergeSort]
      simp only [foundL, List.mem_map, List.mem_filter, decide_eq_true_eq, linesL]
      constructor
      · rintro ⟨_, ⟨⟨r, hr, rfl⟩, hc⟩, rfl⟩
        obtain ⟨h1, h2, _⟩ := mem_rowsL.1 hr
        have hnr : norths l r = n := by
          refine code_inj (by simp [norths, h1]) (fun x hx => ?_) hn hc
          simp only [norths, List.mem_map] at hx
          obtain ⟨i, hi, rfl⟩ := hx
          exact (cols_range (hl (tl l i) (by unfold tl; exact getD_mem (h2 i hi)))).1
        exact ⟨souths l r, (mem_under hl).2 ⟨r, hr, hnr, rfl⟩, rfl⟩
      · rintro ⟨s, hs, rfl⟩
        obtain ⟨r, hr, hnr, rfl⟩ := (mem_under hl).1 hs
        exact ⟨lineOf l r, ⟨⟨r, hr, rfl⟩, by show code (norths l r) = _; rw [hnr]⟩, rfl⟩
  rw [key, List.map_map]
  conv => rhs; rw [← List.map_id (rfrom l (some n) n.length [] 255)]
  refine List.map_congr_left fun s hs => ?_
  obtain ⟨h1, h2⟩ := hrow s hs
  exact colsL_code n.length s h1 h2

end Go.Proofs.Ytgalbokmgffhkaa
