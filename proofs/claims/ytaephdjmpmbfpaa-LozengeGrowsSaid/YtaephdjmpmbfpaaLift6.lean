/- Lifting, part 6: loops with a number beside them that is not in the frame. -/
import Derived.Test.YtaephdjmpmbfpaaLift5
set_option linter.all false
namespace Go.Lf

theorem least {P : Nat → Prop} (h : ∃ n, P n) : ∃ n, P n ∧ ∀ m, P m → n ≤ m := by
  obtain ⟨n, hn⟩ := h
  induction n using Nat.strongRecOn with
  | ind n ih =>
    by_cases hx : ∃ m, m < n ∧ P m
    · obtain ⟨m, h1, h2⟩ := hx
      exact ih m h1 h2
    · exact ⟨n, hn, fun m hm => Nat.le_of_not_lt fun hlt => hx ⟨m, hlt, hm⟩⟩

noncomputable def leastN (P : Nat → Prop) : Nat := by
  classical exact if h : ∃ n, P n then Classical.choose (least h) else 0

theorem leastN_spec {P : Nat → Prop} (h : ∃ n, P n) : P (leastN P) ∧ ∀ m, P m → leastN P ≤ m := by
  unfold leastN
  rw [dif_pos h]
  exact Classical.choose_spec (least h)

theorem loop0_ghost {w0 : World} {body : Fr → World → (World → Prop) → Prop} (I : Nat → World → Prop) (n0 : Nat) (h0 : I n0 w0)
    (h : ∀ (junk : Fr) (n : Nat) (w : World) (next : World → Prop), I n w → (∀ w' n', n' < n → I n' w' → next w') → body junk w next) : Loop0 w0 body :=
  ⟨fun w => ∃ n, I n w, fun w => leastN fun n => I n w, ⟨n0, h0⟩, fun junk w hw => h junk _ w _ (leastN_spec hw).1 fun w' n' hlt hi => ⟨⟨n', hi⟩, Nat.lt_of_le_of_lt ((leastN_spec ⟨n', hi⟩).2 n' hi) hlt⟩⟩

theorem loop1_ghost {a0 : Value} {w0 : World} {body : Fr → Value → World → (Value → World → Prop) → Prop} (I : Nat → Value → World → Prop) (n0 : Nat) (h0 : I n0 a0 w0)
    (h : ∀ (junk : Fr) (n : Nat) (a : Value) (w : World) (next : Value → World → Prop), I n a w → (∀ a' w' n', n' < n → I n' a' w' → next a' w') → body junk a w next) : Loop1 a0 w0 body :=
  ⟨fun a w => ∃ n, I n a w, fun a w => leastN fun n => I n a w, ⟨n0, h0⟩, fun junk a w hw => h junk _ a w _ (leastN_spec hw).1 fun a' w' n' hlt hi => ⟨⟨n', hi⟩, Nat.lt_of_le_of_lt ((leastN_spec ⟨n', hi⟩).2 n' hi) hlt⟩⟩

end Go.Lf
