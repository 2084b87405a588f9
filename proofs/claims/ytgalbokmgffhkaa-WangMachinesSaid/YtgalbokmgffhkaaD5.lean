/- Contract: Machine of the specification. -/
import Derived.Test.YtgalbokmgffhkaaD4
set_option linter.all false
namespace Go.Proofs.Ytgalbokmgffhkaa
open Go.Lf Go.RowKit Go.Wg

def f1 (s : Nat) : Tile := ((s : Int), 0, (s : Int), 0)
theorem mt1_eq : mt1 = (List.range 2).map f1 := by decide
theorem mt2_len (S s q : Nat) : (mt2 S s q).length = 2 := rfl
theorem mt3_len (S : Nat) (T : List Ent) (q s : Nat) : (mt3 S T q s).length ≤ 1 := by
  unfold mt3
  dsimp only
  split
  · simp
  · split <;> simp
theorem fl_le {α : Type} (f : Nat → List α) (m : Nat) (h : ∀ i, (f i).length ≤ m) : ∀ n, ((List.range n).flatMap f).length ≤ n * m
  | 0 => by simp
  | n + 1 => by
    rw [fl_succ, List.length_append, Nat.add_mul, Nat.one_mul]
    have := fl_le f m h n
    have := h n
    omega

theorem bdA (x y : Int) (K : Value → Prop) : bdQ Try.prog 32 [(0, .int .i64 x), (2, .int .i64 y)] K = K (tlV (x, 0, y, 0)) := by kernel_rfl
theorem bdB (x y z : Int) (K : Value → Prop) : bdQ Try.prog 32 [(0, .int .i64 x), (2, .int .i64 y), (3, .int .i64 z)] K = K (tlV (x, 0, y, z)) := by kernel_rfl
theorem bdC (x y z : Int) (K : Value → Prop) : bdQ Try.prog 32 [(0, .int .i64 x), (2, .int .i64 y), (1, .int .i64 z)] K = K (tlV (x, z, y, 0)) := by kernel_rfl

/-- What Machine returns: an error, or the tiles. -/
def MacPost (S : Int) (T : List Ent) (base : Nat) (w' : World) (e : Ending) : Prop :=
  (macB S T = false ∧ e = .returned (.tuple #[nilS, .int .i64 2])) ∨ (macB S T = true ∧ ∃ v, e = .returned (.tuple #[v, .int .i64 0]) ∧ TlAt base w' v (machT S.toNat T))

theorem mac_of {S : Int} {T : List Ent} (h : macB S T = true) : ∃ s : Nat, S = s ∧ 1 ≤ s ∧ s ≤ 2 ∧ T.length = 2 * s ∧ ∀ x ∈ T, (0 ≤ x.1 ∧ x.1 ≤ 1) ∧ -1 ≤ x.2.2 ∧ x.2.2 < s := by
  simp only [macB, Bool.and_eq_true, decide_eq_true_eq, List.all_eq_true, entB] at h
  exact ⟨S.toNat, by omega, by omega, by omega, by omega, fun x hx => ⟨(h.2 x hx).1, by have := (h.2 x hx).2; omega⟩⟩

end Go.Proofs.Ytgalbokmgffhkaa
