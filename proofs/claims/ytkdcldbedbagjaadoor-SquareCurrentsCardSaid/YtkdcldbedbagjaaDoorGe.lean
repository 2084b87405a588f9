/- Spreading over a network, plainly. No program. -/
import Derived.Test.YtkdcldbedbagjaaDoorGb
set_option linter.all false
namespace Go.Dt

/-- One turn more: the ends of all wires with one end in S. -/
def grow (ws : List Wr) (S : Nat → Bool) : Nat → Bool := fun x => S x || ws.any fun e => (S e.1 && decide (e.2 = x)) || (S e.2 && decide (e.1 = x))
def ball (ws : List Wr) (t : Nat) : Nat → Nat → Bool
  | 0 => one t
  | k + 1 => grow ws (ball ws t k)

theorem grow_of {ws : List Wr} {S : Nat → Bool} {x : Nat} (h : S x = true) : grow ws S x = true := by simp [grow, h]
theorem cntS_lt {S T : Nat → Bool} {x : Nat} (hST : ∀ v, S v = true → T v = true) (h1 : S x = false) (h2 : T x = true) : ∀ {n : Nat}, x < n → cntS n S + 1 ≤ cntS n T
  | 0, h => absurd h (by omega)
  | n + 1, h => by
    have le : ∀ n, cntS n S ≤ cntS n T := fun n => by
      induction n with
      | zero => exact Nat.le_refl _
      | succ n ih =>
        simp only [cntS]
        cases a : S n with
        | false => cases T n <;> simp <;> omega
        | true => rw [hST n a]; simp; omega
    simp only [cntS]
    by_cases e : x = n
    · subst e
      have := le x
      rw [h1, h2]; simp; omega
    · have ih := cntS_lt hST h1 h2 (n := n) (by omega)
      cases a : S n with
      | false => cases T n <;> simp <;> omega
      | true => rw [hST n a]; simp; omega

theorem closed_conn {ws : List Wr} {S : Nat → Bool} {t : Nat} (ht : S t = true) (h : ∀ e ∈ ws, (S e.1 = true → S e.2 = true) ∧ (S e.2 = true → S e.1 = true)) {x : Nat} (c : Conn ws t x) : S x = true := by
  induction c with
  | refl => exact ht
  | step _ h2 ih =>
    rcases h2 with h2 | h2
    · exact (h _ h2).1 ih
    · exact (h _ h2).2 ih

theorem ball_t (ws : List Wr) (t : Nat) : ∀ k, ball ws t k t = true
  | 0 => one_self t
  | k + 1 => grow_of (ball_t ws t k)

theorem ball_all {n t : Nat} {ws : List Wr} (hl : Wf n ws) (ht : t < n) : ∀ k, (∀ x, Conn ws t x → ball ws t k x = true) ∨ k + 1 ≤ cntS n (ball ws t k)
  | 0 => .inr (by show 1 ≤ cntS n (one t); rw [cnt_one ht]; exact Nat.le_refl _)
  | k + 1 => by
    rcases ball_all hl ht k with h | h
    · exact .inl fun x c => grow_of (h x c)
    · by_cases hc : ∀ e ∈ ws, (ball ws t k e.1 = true → ball ws t k e.2 = true) ∧ (ball ws t k e.2 = true → ball ws t k e.1 = true)
      · exact .inl fun x c => grow_of (closed_conn (ball_t ws t k) hc c)
      · refine .inr ?_
        have : ∃ x, x < n ∧ ball ws t k x = false ∧ ball ws t (k + 1) x = true := by
          refine Classical.byContradiction fun hn => hc fun e he => ?_
          have hw := hl e he
          refine ⟨fun h1 => ?_, fun h1 => ?_⟩
          · cases h2 : ball ws t k e.2 with
            | true => rfl
            | false =>
              refine absurd ⟨e.2, hw.2.1, h2, ?_⟩ hn
              show grow ws (ball ws t k) e.2 = true
              unfold grow
              rw [Bool.or_eq_true]
              exact .inr (List.any_eq_true.2 ⟨e, he, by simp [h1]⟩)
          · cases h2 : ball ws t k e.1 with
            | true => rfl
            | false =>
              refine absurd ⟨e.1, hw.1, h2, ?_⟩ hn
              show grow ws (ball ws t k) e.1 = true
              unfold grow
              rw [Bool.or_eq_true]
              exact .inr (List.any_eq_true.2 ⟨e, he, by simp [h1]⟩)
        obtain ⟨x, hx, h1, h2⟩ := this
        have := cntS_lt (S := ball ws t k) (T := ball ws t (k + 1)) (fun v hv => grow_of hv) h1 h2 hx
        omega

theorem ball_full {n t : Nat} {ws : List Wr} (hl : Wf n ws) (ht : t < n) {x : Nat} (c : Conn ws t x) : ball ws t n x = true := by
  rcases ball_all hl ht n with h | h
  · exact h x c
  · have := cnt_le (ball ws t n) n
    omega

/-- A network with a tree is connected. -/
theorem trees_conn {n t x : Nat} {ws : List Wr} (ht : t < n) (hx : x < n) (h : trees n ws ≠ 0) : Conn ws t x := by
  have : ∃ s, s.Sublist ws ∧ RF n (one 0) s := Classical.byContradiction fun hn => h (cnt_false fun s hs hr => hn ⟨s, hs, hr⟩)
  obtain ⟨s, hs, hr⟩ := this
  have f : ∀ y, y < n → Conn s y 0 := fun y hy => by
    obtain ⟨r, _, h2, h3⟩ := hr.2 y hy
    rwa [one_iff.1 h2] at h3
  exact ((f t ht).trans (f x hx).symm).mono fun e he => hs.subset he

end Go.Dt
