/- Going through all heaps: a counter whose digits have bounds that depend on the digits before. Plain; no program. -/
import Derived.Test.YtaephdjmpmbfpaaHeap
import Derived.Test.YtaephdjmpmbfpaaBel
set_option linter.all false
namespace Go.Hp

/-- All ways to go on with n digits after pre; mx is the greatest next digit. -/
def enumO (mx : List Int → Int) : Nat → List Int → List (List Int)
  | 0, _ => [[]]
  | n + 1, pre => (List.range (mx pre + 1).toNat).flatMap fun (x : Nat) => (enumO mx n (pre ++ [(x : Int)])).map ((x : Int) :: ·)

/-- The next digits. -/
def nxtO (mx : List Int → Int) : List Int → List Int → Option (List Int)
  | _, [] => none
  | pre, x :: rest => match nxtO mx (pre ++ [x]) rest with
    | some r => some (x :: r)
    | none => if x < mx pre then some ((x + 1) :: List.replicate rest.length 0) else none

/-- Each element's next one is the one after it; the last one's is t. -/
def ChTo {α : Type} (nx : α → Option α) (L : List α) (t : Option α) : Prop := ∀ (k : Nat) (a : α), L[k]? = some a → nx a = if k + 1 = L.length then t else L[k + 1]?

theorem ChTo.append {α : Type} {nx : α → Option α} {L M : List α} (h1 : ChTo nx L M[0]?) (h2 : ChTo nx M none) : ChTo nx (L ++ M) none := by
  intro k a hk
  by_cases hl : k < L.length
  · rw [List.getElem?_append_left hl] at hk
    rw [h1 k a hk, List.length_append]
    by_cases he : k + 1 = L.length
    · rw [if_pos he]
      by_cases hm : M.length = 0
      · have : M = [] := List.length_eq_zero_iff.1 hm
        subst this
        simp [he]
      · rw [if_neg (by omega), List.getElem?_append_right (by omega), show k + 1 - L.length = 0 by omega]
    · rw [if_neg he, if_neg (by omega), List.getElem?_append_left (by omega)]
  · rw [List.getElem?_append_right (by omega)] at hk
    rw [h2 _ a hk, List.length_append]
    by_cases he : k - L.length + 1 = M.length
    · rw [if_pos he, if_pos (by omega)]
    · rw [if_neg he, if_neg (by omega), List.getElem?_append_right (by omega), show k + 1 - L.length = k - L.length + 1 by omega]

/-- All digits at most what they may be. -/
theorem enumO_good {mx : List Int → Int} : ∀ (n : Nat) (pre s : List Int), s ∈ enumO mx n pre → s.length = n ∧ ∀ q, q < n → 0 ≤ s.getD q 0 ∧ s.getD q 0 ≤ mx (pre ++ s.take q)
  | 0, pre, s, h => by simp [enumO] at h; subst h; exact ⟨rfl, fun q hq => by omega⟩
  | n + 1, pre, s, h => by
    simp only [enumO, List.mem_flatMap, List.mem_range, List.mem_map] at h
    obtain ⟨x, hx, r, hr, rfl⟩ := h
    obtain ⟨h1, h2⟩ := enumO_good n _ r hr
    refine ⟨by simp [h1], fun q hq => ?_⟩
    cases q with
    | zero => simp; omega
    | succ q =>
      have := h2 q (by omega)
      simpa using this

section
variable {mx : List Int → Int} (H : ∀ pre : List Int, (∀ x ∈ pre, 0 ≤ x) → 0 ≤ mx pre)
include H

theorem enumO_head : ∀ (n : Nat) (pre : List Int), (∀ x ∈ pre, 0 ≤ x) → (enumO mx n pre)[0]? = some (List.replicate n 0)
  | 0, pre, _ => rfl
  | n + 1, pre, hp => by
    have h0 := H pre hp
    have ih := enumO_head n (pre ++ [((0 : Nat) : Int)]) (fun x hx => by
      rcases List.mem_append.1 hx with h | h
      · exact hp x h
      · simp at h; omega)
    obtain ⟨m, hm⟩ : ∃ m, (mx pre + 1).toNat = m + 1 := ⟨(mx pre).toNat, by omega⟩
    simp only [enumO, hm, List.range_succ_eq_map, List.flatMap_cons]
    have hne : 0 < (enumO mx n (pre ++ [((0 : Nat) : Int)])).length := (List.getElem?_eq_some_iff.1 ih).1
    rw [List.getElem?_append_left (by simpa using hne), List.getElem?_map, ih]
    rfl

theorem enumO_chain : ∀ (n : Nat) (pre : List Int), (∀ x ∈ pre, 0 ≤ x) → ChTo (nxtO mx pre) (enumO mx n pre) none
  | 0, pre, _ => by
    intro k a hk
    cases k with
    | zero => simp [enumO] at hk; subst hk; rfl
    | succ k => simp [enumO] at hk
  | n + 1, pre, hp => by
    have hpx : ∀ x : Nat, ∀ y ∈ pre ++ [(x : Int)], 0 ≤ y := fun x y hy => by
      rcases List.mem_append.1 hy with h | h
      · exact hp y h
      · simp at h; omega
    have key : ∀ m x : Nat, x + m = (mx pre + 1).toNat → ChTo (nxtO mx pre) ((List.range' x m).flatMap fun (x : Nat) => (enumO mx n (pre ++ [(x : Int)])).map ((x : Int) :: ·)) none := by
      intro m
      induction m with
      | zero => intro x _ k a hk; simp at hk
      | succ m ih =>
        intro x hx
        rw [List.range'_succ, List.flatMap_cons]
        refine ChTo.append ?_ (ih (x + 1) (by omega))
        intro k a hk
        rw [List.getElem?_map] at hk
        obtain ⟨s, hs, rfl⟩ := Option.map_eq_some_iff.1 hk
        have hc := enumO_chain n _ (hpx x) k s hs
        have hsl := (enumO_good n _ s (List.mem_of_getElem? hs)).1
        simp only [nxtO, hc, List.length_map, List.getElem?_map]
        by_cases he : k + 1 = (enumO mx n (pre ++ [(x : Int)])).length
        · rw [if_pos he, if_pos he]
          dsimp only
          by_cases hlt : (x : Int) < mx pre
          · rw [if_pos hlt, hsl]
            obtain ⟨m', hm'⟩ : ∃ m', m = m' + 1 := ⟨m - 1, by omega⟩
            subst hm'
            have hh := enumO_head H n (pre ++ [((x + 1 : Nat) : Int)]) (hpx (x + 1))
            have hne : 0 < (enumO mx n (pre ++ [((x + 1 : Nat) : Int)])).length := (List.getElem?_eq_some_iff.1 hh).1
            rw [List.range'_succ, List.flatMap_cons, List.getElem?_append_left (by simpa using hne), List.getElem?_map, hh]
            rfl
          · rw [if_neg hlt]
            have : m = 0 := by omega
            subst this
            rfl
        · rw [if_neg he, if_neg he]
          have hlt : k + 1 < (enumO mx n (pre ++ [(x : Int)])).length := by
            have := (List.getElem?_eq_some_iff.1 hs).1
            omega
          rw [List.getElem?_eq_getElem hlt]
          rfl
    have := key (mx pre + 1).toNat 0 (by omega)
    rw [← List.range_eq_range'] at this
    exact this

end

/-- A chain is what its first element leads to. -/
theorem chain_iter {α : Type} {nx : α → Option α} {L : List α} (h : ChTo nx L none) (f : Nat → Option α) (h0 : f 0 = L[0]?) (hs : ∀ k, f (k + 1) = (f k).bind nx) : ∀ k, f k = L[k]?
  | 0 => h0
  | k + 1 => by
    rw [hs, chain_iter h f h0 hs k]
    cases hk : L[k]? with
    | none =>
      have := List.getElem?_eq_none_iff.1 hk
      rw [List.getElem?_eq_none (by omega)]; rfl
    | some a =>
      have := h k a hk
      have hlt := (List.getElem?_eq_some_iff.1 hk).1
      simp only [Option.bind_some, this]
      by_cases he : k + 1 = L.length
      · rw [if_pos he, List.getElem?_eq_none (by omega)]
      · rw [if_neg he]

/-- The greatest digit at place pre.length of a heap of rows of B numbers. -/
def mxF (B : Nat) (C : Int) (pre : List Int) : Int :=
  let m := if 0 < pre.length % B then min C (pre.getD (pre.length - 1) 0) else C
  if 0 < pre.length / B then min m (pre.getD (pre.length - B) 0) else m

theorem mxF_nonneg {B : Nat} {C : Int} (hC : 0 ≤ C) (pre : List Int) (h : ∀ x ∈ pre, 0 ≤ x) : 0 ≤ mxF B C pre := by
  have hg : ∀ k, 0 ≤ pre.getD k 0 := fun k => by
    by_cases hk : k < pre.length
    · rw [List.getD_eq_getElem?_getD, List.getElem?_eq_getElem hk]; exact h _ (List.getElem_mem hk)
    · rw [List.getD_eq_getElem?_getD, List.getElem?_eq_none (by omega)]; simp
  have g1 := hg (pre.length - 1)
  have g2 := hg (pre.length - B)
  unfold mxF
  dsimp only
  split <;> split <;> omega

end Go.Hp
