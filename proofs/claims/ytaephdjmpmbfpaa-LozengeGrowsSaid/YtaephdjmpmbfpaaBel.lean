/- The rows that can be under a row, in ascending order. Plain; no program. -/
set_option linter.all false
namespace Go.Hp

/-- The greatest number at column j under a row, the columns before it being chosen. -/
def mostR (ab r : List Int) (j : Nat) : Int := if 0 < j then min (ab.getD j 0) (r.getD (j - 1) 0) else ab.getD j 0

/-- All ways to choose n more columns, from column j on. -/
def bel (ab : List Int) : Nat → Nat → List Int → List (List Int)
  | 0, _, r => [r]
  | n + 1, j, r => (List.range (mostR ab r j + 1).toNat).flatMap fun (x : Nat) => bel ab n (j + 1) (r.set j (x : Int))

def belowM (B : Nat) (ab : List Int) : List (List Int) := bel ab B 0 [0, 0, 0, 0]

theorem bel_length {ab : List Int} : ∀ (n j : Nat) (r : List Int), ∀ q ∈ bel ab n j r, q.length = r.length
  | 0, j, r, q, hq => by simp [bel] at hq; rw [hq]
  | n + 1, j, r, q, hq => by
    simp only [bel, List.mem_flatMap] at hq
    obtain ⟨x, _, h⟩ := hq
    rw [bel_length n (j + 1) _ q h]
    simp

/-- The number of ways is bounded. -/
theorem bel_count {ab : List Int} {m : Nat} (h : ∀ j, ab.getD j 0 + 1 ≤ m) : ∀ (n j : Nat) (r : List Int), (bel ab n j r).length ≤ m ^ n
  | 0, j, r => by simp [bel]
  | n + 1, j, r => by
    simp only [bel, List.length_flatMap]
    have hm : (mostR ab r j + 1).toNat ≤ m := by
      have := h j
      unfold mostR
      split <;> omega
    have : ∀ (l : List Nat), (l.map fun (x : Nat) => (bel ab n (j + 1) (r.set j (x : Int))).length).sum ≤ l.length * m ^ n := by
      intro l
      induction l with
      | nil => simp
      | cons x l ih =>
        have := bel_count h n (j + 1) (r.set j x)
        simp only [List.map_cons, List.sum_cons, List.length_cons, Nat.add_mul, Nat.one_mul]
        omega
    refine Nat.le_trans (this _) ?_
    rw [List.length_range, Nat.pow_succ, Nat.mul_comm (m ^ n)]
    exact Nat.mul_le_mul_right _ hm

end Go.Hp
