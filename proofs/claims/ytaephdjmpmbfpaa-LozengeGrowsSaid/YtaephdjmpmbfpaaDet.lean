/- Numbers of ways to choose and determinants. Plain; no program. -/
import Derived.Test.YtaephdjmpmbfpaaHeap
set_option linter.all false
namespace Go.Hp

/-- Pascal's numbers. -/
def ch : Nat → Nat → Nat
  | _, 0 => 1
  | 0, _ + 1 => 0
  | n + 1, k + 1 => ch n k + ch n (k + 1)

def chZ (n : Nat) (k : Int) : Int := if k < 0 then 0 else ch n k.toNat

theorem ch_big : ∀ (n k : Nat), n < k → ch n k = 0
  | _, 0, h => absurd h (by omega)
  | 0, k + 1, _ => rfl
  | n + 1, k + 1, h => by simp [ch, ch_big n k (by omega), ch_big n (k + 1) (by omega)]
theorem ch_self : ∀ n, ch n n = 1
  | 0 => rfl
  | n + 1 => by simp [ch, ch_self n, ch_big n (n + 1) (by omega)]
theorem ch_zero (n : Nat) : ch n 0 = 1 := by cases n <;> rfl
theorem ch_step : ∀ n, n < 9 → ∀ i, i < n → ch n i * (n - i) / (i + 1) = ch n (i + 1) := by decide
theorem ch_small : ∀ n, n < 9 → ∀ i, i < 9 → ch n i ≤ 70 := by decide
theorem ch_le {n k : Nat} (hn : n ≤ 8) : ch n k ≤ 70 := by
  by_cases h : k < 9
  · exact ch_small n (by omega) k h
  · rw [ch_big n k (by omega)]; omega
theorem chZ_le {n : Nat} {k : Int} (hn : n ≤ 8) : 0 ≤ chZ n k ∧ chZ n k ≤ 70 := by
  unfold chZ
  split
  · omega
  · have := ch_le (k := k.toNat) hn; omega
theorem ch_stepZ {n i : Nat} (hn : n ≤ 8) (hi : i < n) : ((ch n i : Nat) : Int) * ((n : Int) - i) / ((i : Int) + 1) = (ch n (i + 1) : Nat) := by
  have e : (n : Int) - i = ((n - i : Nat) : Int) := by omega
  rw [e, ← ch_step n (by omega) i hi]
  rfl
theorem ch_mulZ {n i : Nat} (hn : n ≤ 8) (hi : i < n) : 0 ≤ ((ch n i : Nat) : Int) * ((n : Int) - i) ∧ ((ch n i : Nat) : Int) * ((n : Int) - i) ≤ 560 := by
  have e : (n : Int) - i = ((n - i : Nat) : Int) := by omega
  rw [e]
  have h1 := ch_le (k := i) hn
  have h2 : ch n i * (n - i) ≤ 70 * 8 := Nat.mul_le_mul h1 (by omega)
  have e2 : ((ch n i : Nat) : Int) * ((n - i : Nat) : Int) = ((ch n i * (n - i) : Nat) : Int) := by simp
  rw [e2]; omega

/-- A matrix without its first row and column j. -/
def minorM (j : Nat) (m : List (List Int)) : List (List Int) := (m.drop 1).map fun r => r.take j ++ r.drop (j + 1)

def sg (j : Nat) : Int := if j % 2 = 0 then 1 else -1
theorem sg_succ (j : Nat) : sg (j + 1) = - sg j := by unfold sg; split <;> split <;> omega
theorem sg_abs (j : Nat) : (sg j).natAbs = 1 := by unfold sg; split <;> rfl
theorem sg_small (j : Nat) : -1 ≤ sg j ∧ sg j ≤ 1 := by unfold sg; split <;> omega

/-- f 0 + .. + f (j - 1) -/
def sumTo (f : Nat → Int) : Nat → Int
  | 0 => 0
  | j + 1 => sumTo f j + f j

def detM : Nat → List (List Int) → Int
  | 0, _ => 1
  | n + 1, m => sumTo (fun j => sg j * hat m 0 j * detM n (minorM j m)) (n + 1)

def Small (m : List (List Int)) : Prop := ∀ i j, (hat m i j).natAbs ≤ 100

theorem minor_row {n j : Nat} {m : List (List Int)} (hs : Sized (n + 1) (n + 1) m) {i : Nat} (hi : i < n) : (minorM j m).getD i [] = (m.getD (i + 1) []).take j ++ (m.getD (i + 1) []).drop (j + 1) := by
  have hl := hs.1
  simp only [minorM, List.getD_eq_getElem?_getD, List.getElem?_map, List.getElem?_drop, Nat.add_comm 1 i]
  rw [List.getElem?_eq_getElem (show i + 1 < m.length by omega)]
  rfl

theorem minor_sized {n j : Nat} {m : List (List Int)} (hs : Sized (n + 1) (n + 1) m) (hj : j < n + 1) : Sized n n (minorM j m) := by
  refine ⟨by simp [minorM, hs.1], fun i hi => ?_⟩
  rw [minor_row hs hi]
  have := hs.2 (i + 1) (by omega)
  simp only [List.length_append, List.length_take, List.length_drop]
  omega

theorem minor_small {n j : Nat} {m : List (List Int)} (hs : Sized (n + 1) (n + 1) m) (h : Small m) : Small (minorM j m) := by
  intro i k
  by_cases hi : i < n
  · unfold hat
    rw [minor_row hs hi]
    have h1 := h (i + 1)
    unfold hat at h1
    generalize m.getD (i + 1) [] = r at h1
    rw [List.getD_eq_getElem?_getD]
    by_cases hk : k < (r.take j).length
    · rw [List.getElem?_append_left hk, List.getElem?_take]
      have := h1 k
      rw [List.getD_eq_getElem?_getD] at this
      split
      · exact this
      · simp
    · rw [List.getElem?_append_right (by omega), List.getElem?_drop]
      have := h1 (j + 1 + (k - (r.take j).length))
      rw [List.getD_eq_getElem?_getD] at this
      exact this
  · have hl := (minorM j m).length
    have : (minorM j m).length = n := by simp [minorM, hs.1]
    unfold hat
    have e : (minorM j m).getD i [] = [] := by
      rw [List.getD_eq_getElem?_getD, List.getElem?_eq_none (by omega)]; rfl
    rw [e]; simp

def dBound : Nat → Nat
  | 0 => 1
  | n + 1 => (n + 1) * (100 * dBound n)

theorem sumTo_abs {f : Nat → Int} {b : Nat} (h : ∀ j, (f j).natAbs ≤ b) : ∀ n, (sumTo f n).natAbs ≤ n * b
  | 0 => by simp [sumTo]
  | n + 1 => by
    have h1 := sumTo_abs h n
    have h2 := h n
    have h3 : (sumTo f (n + 1)).natAbs ≤ (sumTo f n).natAbs + (f n).natAbs := by simp only [sumTo]; omega
    rw [Nat.add_mul, Nat.one_mul]
    omega

theorem det_abs : ∀ (n : Nat) (m : List (List Int)), Sized n n m → Small m → (detM n m).natAbs ≤ dBound n
  | 0, m, _, _ => by simp [detM, dBound]
  | n + 1, m, hs, h => by
    have hterm : ∀ j, j < n + 1 → (sg j * hat m 0 j * detM n (minorM j m)).natAbs ≤ 100 * dBound n := fun j hj => by
      rw [Int.natAbs_mul, Int.natAbs_mul, sg_abs, Nat.one_mul]
      exact Nat.mul_le_mul (h 0 j) (det_abs n _ (minor_sized hs hj) (minor_small hs h))
    have : ∀ k, k ≤ n + 1 → (sumTo (fun j => sg j * hat m 0 j * detM n (minorM j m)) k).natAbs ≤ k * (100 * dBound n) := by
      intro k
      induction k with
      | zero => intro _; simp [sumTo]
      | succ k ih =>
        intro hk
        have h1 := ih (by omega)
        have h2 := hterm k (by omega)
        have h3 : (sumTo (fun j => sg j * hat m 0 j * detM n (minorM j m)) (k + 1)).natAbs ≤ (sumTo (fun j => sg j * hat m 0 j * detM n (minorM j m)) k).natAbs + (sg k * hat m 0 k * detM n (minorM k m)).natAbs := by simp only [sumTo]; omega
        rw [Nat.add_mul, Nat.one_mul]
        omega
    exact this (n + 1) (Nat.le_refl _)

theorem dBound_le {n : Nat} (h : n ≤ 3) : dBound n ≤ 6000000 := by
  have : n = 0 ∨ n = 1 ∨ n = 2 ∨ n = 3 := by omega
  rcases this with rfl | rfl | rfl | rfl <;> decide

/-- What a step of the determinant's sum meets. -/
theorem det_step {n : Nat} {m : List (List Int)} (hn : n ≤ 3) (hs : Sized (n + 1) (n + 1) m) (h : Small m) {j : Nat} (hj : j < n + 1) :
    (sg j * hat m 0 j).natAbs ≤ 100 ∧ (detM n (minorM j m)).natAbs ≤ 6000000 ∧ (sg j * hat m 0 j * detM n (minorM j m)).natAbs ≤ 600000000 ∧ (sumTo (fun j => sg j * hat m 0 j * detM n (minorM j m)) j).natAbs ≤ 2400000000 := by
  have h1 : ∀ j, (sg j * hat m 0 j).natAbs ≤ 100 := fun j => by rw [Int.natAbs_mul, sg_abs, Nat.one_mul]; exact h 0 j
  have h2 : ∀ j, j < n + 1 → (detM n (minorM j m)).natAbs ≤ 6000000 := fun j hj => Nat.le_trans (det_abs n _ (minor_sized hs hj) (minor_small hs h)) (dBound_le hn)
  have h3 : ∀ j, j < n + 1 → (sg j * hat m 0 j * detM n (minorM j m)).natAbs ≤ 600000000 := fun j hj => by rw [Int.natAbs_mul]; exact Nat.le_trans (Nat.mul_le_mul (h1 j) (h2 j hj)) (by decide)
  refine ⟨h1 j, h2 j hj, h3 j hj, ?_⟩
  have : ∀ k, k ≤ n + 1 → (sumTo (fun j => sg j * hat m 0 j * detM n (minorM j m)) k).natAbs ≤ k * 600000000 := by
    intro k
    induction k with
    | zero => intro _; simp [sumTo]
    | succ k ih =>
      intro hk
      have h4 := ih (by omega)
      have h5 := h3 k (by omega)
      have h6 : (sumTo (fun j => sg j * hat m 0 j * detM n (minorM j m)) (k + 1)).natAbs ≤ (sumTo (fun j => sg j * hat m 0 j * detM n (minorM j m)) k).natAbs + (sg k * hat m 0 k * detM n (minorM k m)).natAbs := by simp only [sumTo]; omega
      rw [Nat.add_mul, Nat.one_mul]
      omega
  have h7 := this j (by omega)
  omega

/-- The matrix of paths. -/
def pathsM (A B C : Nat) : List (List Int) := (List.range A).map fun i => (List.range A).map fun j => chZ (B + C) ((B : Int) - (i : Nat) + (j : Nat))

theorem pathsM_row {A B C i : Nat} (hi : i < A) : (pathsM A B C).getD i [] = (List.range A).map fun j => chZ (B + C) ((B : Int) - (i : Nat) + (j : Nat)) := by
  simp [pathsM, hi]
theorem pathsM_sized (A B C : Nat) : Sized A A (pathsM A B C) := ⟨by simp [pathsM], fun i hi => by rw [pathsM_row hi]; simp⟩
theorem pathsM_small {A B C : Nat} (h : B + C ≤ 8) : Small (pathsM A B C) := by
  intro i j
  by_cases hi : i < A
  · unfold hat
    rw [pathsM_row hi]
    by_cases hj : j < A
    · have := chZ_le (k := (B : Int) - (i : Nat) + (j : Nat)) h
      simp [hj]; omega
    · simp [hj]
  · unfold hat
    have e : (pathsM A B C).getD i [] = [] := by
      rw [List.getD_eq_getElem?_getD, List.getElem?_eq_none (by simp [pathsM]; omega)]; rfl
    rw [e]; simp

end Go.Hp
