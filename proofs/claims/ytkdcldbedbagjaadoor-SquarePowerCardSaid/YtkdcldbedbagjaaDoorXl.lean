/- Resistances and flows with the ends exchanged, plainly. -/
import Derived.Test.YtkdcldbedbagjaaDoorVa
set_option linter.all false
namespace Go.Proofs.YtkdcldbedbagjaaDoor
open Go.Lf Go.RowKit Go.Dt

theorem end_turn (n : Int) (L : List (Int × Int)) (s t : Int) : endErr n L s t = endErr n L t s := by
  unfold endErr
  by_cases h : s < 0 ∨ n ≤ s ∨ t < 0 ∨ n ≤ t ∨ s = t
  · rw [if_pos h, if_pos (show t < 0 ∨ n ≤ t ∨ s < 0 ∨ n ≤ s ∨ t = s by omega)]
  · rw [if_neg h, if_neg (show ¬ (t < 0 ∨ n ≤ t ∨ s < 0 ∨ n ≤ s ∨ t = s) by omega)]
theorem thE_turn (n : Int) (L : List (Int × Int)) (s t : Int) : thE n L s t = thE n L t s := by
  unfold thE; rw [end_turn]
theorem rsP_turn (n : Int) (L : List (Int × Int)) (s t : Int) : rsP n L s t = rsP n L t s := by
  unfold rsP shP; rw [end_turn, volt_comm]

/-- What a resistance without an error is. -/
theorem rs_ok {n s t : Int} {L : List (Int × Int)} (h : thE n L s t = 0) : ∃ (N S T : Nat), n = N ∧ s = S ∧ t = T ∧ NetOk N (L.map natW) ∧ S < N ∧ T < N ∧ S ≠ T ∧ 0 < trees N (L.map natW) ∧ rsP n L s t = paceOf (volt N (L.map natW) S T) (trees N (L.map natW)) := by
  unfold thE at h
  by_cases h1 : endErr n L s t = 0
  case neg => rw [if_neg h1] at h; exact absurd h h1
  rw [if_pos h1] at h
  by_cases h2 : trees n.toNat (L.map natW) = 0
  · rw [if_pos h2] at h; cases h
  obtain ⟨g1, S, T, rfl, rfl, hS, hT, hST⟩ := end_ok h1
  obtain ⟨N, rfl, hN, _⟩ := net_ok g1
  have e : ((N : Nat) : Int).toNat = N := rfl
  rw [e] at h2
  refine ⟨N, S, T, rfl, rfl, rfl, hN, by omega, by omega, hST, by omega, ?_⟩
  unfold rsP shP
  rw [if_pos h1]
  show (if trees N (L.map natW) = 0 then _ else _) = _
  rw [if_neg h2]
  rfl

end Go.Proofs.YtkdcldbedbagjaaDoor
