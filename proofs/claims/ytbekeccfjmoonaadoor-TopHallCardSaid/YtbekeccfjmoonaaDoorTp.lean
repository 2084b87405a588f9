/- Contract of weight: Tilings. -/
import Derived.Test.YtbekeccfjmoonaaDoorTo
import Derived.Test.YtbekeccfjmoonaaDoorSf
set_option linter.all false
namespace Go.Proofs.YtbekeccfjmoonaaDoor
open Go.Lf Go.RowKit Go.Ht

theorem keyed3 : Maps.Keyed Tryd.prog 3 := Maps.int_keyed (q := .i64) (by kernel_rfl)
abbrev iV (n : Int) : Value := .int .i64 n
theorem iV_inj {a b : Int} (h : iV a = iV b) : a = b := by injection h
theorem keyI : KeyE 3 iV i64B := ⟨keyed3, fun {k} h => ⟨_, Maps.keyOf_int_mk (by kernel_rfl) (i64_wf h)⟩, iV_inj⟩
theorem und56 : Tryd.prog.underlying 56 = some (.map 3 3) := by kernel_rfl
abbrev MapI (w : World) (b : Nat) (f : Int → Option Value) : Prop := MapO iV i64B w b f

/-! ### plain -/
def firstZ (m : Nat) : Nat → Nat → Nat
  | 0, i => i
  | n + 1, i => if m &&& 2 ^ i = 0 then i else firstZ m n (i + 1)
def fz (m : Nat) : Nat := firstZ m 16 0
theorem firstZ_zero {m : Nat} (h : m < 2 ^ 16) : ∀ (n i : Nat), i + n = 16 → m &&& 2 ^ firstZ m n i = 0
  | 0, i, e => by
    obtain rfl : i = 16 := by omega
    show m &&& 2 ^ 16 = 0
    refine Nat.eq_of_testBit_eq fun i => ?_
    rw [Nat.testBit_and, Nat.testBit_two_pow, Nat.zero_testBit]
    by_cases e : 16 = i
    · rw [← e, Nat.testBit_lt_two_pow h]; rfl
    · simp [e]
  | n + 1, i, e => by
    unfold firstZ
    split
    · assumption
    · exact firstZ_zero h n (i + 1) (by omega)
theorem firstZ_le (m : Nat) : ∀ (n i : Nat), firstZ m n i ≤ i + n
  | 0, i => Nat.le_refl _
  | n + 1, i => by
    unfold firstZ
    split
    · omega
    · have := firstZ_le m n (i + 1); omega
def bitsN (r : List Int) : Nat := r.foldl (fun a c => a ||| 2 ^ c.toNat) 0
/-- How many ways there are to fill the rest. -/
def tilF (full : Nat) (R : List (List Int)) : Nat → Nat → Nat
  | 0, m => if m = full then 1 else 0
  | n + 1, m => if m = full then 1 else (R.map fun r => if decide (((fz m : Nat) : Int) ∈ r) && decide (m &&& bitsN r = 0) then tilF full R n (m ||| bitsN r) else 0).sum
def til (full : Nat) (R : List (List Int)) (m : Nat) : Nat := tilF full R (full - m) m
/-- The covers are pairs of numbers below L. -/
def PairsB (L : Nat) (R : List (List Int)) : Prop := ∀ r ∈ R, ∃ i j : Nat, r = [((i : Nat) : Int), ((j : Nat) : Int)] ∧ i < L ∧ j < L ∧ i ≠ j
theorem bits_two (i j : Nat) : bitsN [((i : Nat) : Int), ((j : Nat) : Int)] = 2 ^ i ||| 2 ^ j := by simp [bitsN]
theorem or_grow {L m i j : Nat} (hm : m < 2 ^ L) (hi : i < L) (hj : j < L) (h0 : m &&& (2 ^ i ||| 2 ^ j) = 0) : m < m ||| (2 ^ i ||| 2 ^ j) ∧ m ||| (2 ^ i ||| 2 ^ j) < 2 ^ L := by
  have h1 : 2 ^ i < 2 ^ L := Nat.pow_lt_pow_right (by omega) hi
  have h2 : 2 ^ j < 2 ^ L := Nat.pow_lt_pow_right (by omega) hj
  refine ⟨?_, Nat.or_lt_two_pow hm (Nat.or_lt_two_pow h1 h2)⟩
  have hle : m ≤ m ||| (2 ^ i ||| 2 ^ j) := Nat.left_le_or
  rcases Nat.lt_or_ge m (m ||| (2 ^ i ||| 2 ^ j)) with h | h
  · exact h
  · have e : m ||| (2 ^ i ||| 2 ^ j) = m := by omega
    have ht : m.testBit i = true := by rw [← e]; simp
    have hf : (m &&& (2 ^ i ||| 2 ^ j)).testBit i = true := by simp [ht]
    rw [h0] at hf; simp at hf
theorem tilF_fuel {L : Nat} {R : List (List Int)} (hR : PairsB L R) : ∀ (n n' m : Nat), m < 2 ^ L → 2 ^ L - 1 ≤ n + m → 2 ^ L - 1 ≤ n' + m → tilF (2 ^ L - 1) R n m = tilF (2 ^ L - 1) R n' m
  | 0, n', m, hm, h1, h2 => by
    have e : m = 2 ^ L - 1 := by omega
    cases n' <;> simp [tilF, e]
  | n + 1, 0, m, hm, h1, h2 => by
    have e : m = 2 ^ L - 1 := by omega
    simp [tilF, e]
  | n + 1, n' + 1, m, hm, h1, h2 => by
    simp only [tilF]
    split
    · rfl
    · congr 1
      apply List.map_congr_left
      intro r hr
      obtain ⟨i, j, rfl, hi, hj, hij⟩ := hR r hr
      rw [bits_two]
      split
      · rename_i h
        rw [Bool.and_eq_true] at h
        obtain ⟨g1, g2⟩ := or_grow hm hi hj (of_decide_eq_true h.2)
        exact tilF_fuel hR n n' _ g2 (by omega) (by omega)
      · rfl
theorem til_step {L : Nat} {R : List (List Int)} (hR : PairsB L R) {m : Nat} (hm : m < 2 ^ L) (hne : m ≠ 2 ^ L - 1) :
    til (2 ^ L - 1) R m = (R.map fun r => if decide (((fz m : Nat) : Int) ∈ r) && decide (m &&& bitsN r = 0) then til (2 ^ L - 1) R (m ||| bitsN r) else 0).sum := by
  unfold til
  obtain ⟨n, hn⟩ : ∃ n, 2 ^ L - 1 - m = n + 1 := ⟨2 ^ L - 1 - m - 1, by omega⟩
  rw [hn]
  simp only [tilF]
  rw [if_neg hne]
  congr 1
  apply List.map_congr_left
  intro r hr
  obtain ⟨i, j, rfl, hi, hj, hij⟩ := hR r hr
  rw [bits_two]
  split
  · rename_i h
    rw [Bool.and_eq_true] at h
    obtain ⟨g1, g2⟩ := or_grow hm hi hj (of_decide_eq_true h.2)
    exact tilF_fuel hR n _ _ g2 (by omega) (by omega)
  · rfl
theorem til_full (full : Nat) (R : List (List Int)) : til full R full = 1 := by unfold til; rw [Nat.sub_self]; simp [tilF]

/-- How many bits below L are not set. -/
def unset (L m : Nat) : Nat := ((List.range L).filter fun i => !m.testBit i).length
theorem unset_less {L m i : Nat} (hi : i < L) (h : m.testBit i = false) : unset L (m ||| 2 ^ i) < unset L m :=
  filter_less (y := i) (fun x _ hx => by
    rw [Nat.testBit_or] at hx
    cases q : m.testBit x with
    | false => rfl
    | true => rw [q] at hx; simp at hx) (List.mem_range.2 hi) (by simp) (by simp [h])
theorem sum_map_le {α : Type} {f : α → Nat} {B : Nat} : ∀ {L : List α}, (∀ x ∈ L, f x ≤ B) → (L.map f).sum ≤ L.length * B
  | [], _ => by simp
  | a :: L, h => by
    have h1 := h a (List.mem_cons_self ..)
    have h2 := sum_map_le (L := L) fun x hx => h x (List.mem_cons_of_mem _ hx)
    rw [List.map_cons, List.sum_cons, List.length_cons, Nat.add_mul]; omega
theorem tilF_le {L : Nat} {R : List (List Int)} (hR : PairsB L R) (hl : R.length ≤ 32) : ∀ (n m : Nat), tilF (2 ^ L - 1) R n m ≤ 32 ^ (unset L m / 2)
  | 0, m => by
    simp only [tilF]
    have := Nat.one_le_two_pow (n := 5 * (unset L m / 2))
    have e : (32 : Nat) ^ (unset L m / 2) = 2 ^ (5 * (unset L m / 2)) := by rw [Nat.pow_mul]
    split <;> omega
  | n + 1, m => by
    have h1 := Nat.one_le_two_pow (n := 5 * (unset L m / 2))
    have e : (32 : Nat) ^ (unset L m / 2) = 2 ^ (5 * (unset L m / 2)) := by rw [Nat.pow_mul]
    simp only [tilF]
    split
    · omega
    · by_cases hu : 2 ≤ unset L m
      · refine Nat.le_trans (sum_map_le (B := 32 ^ (unset L m / 2 - 1)) fun r hr => ?_) ?_
        · obtain ⟨i, j, rfl, hi, hj, hij⟩ := hR r hr
          rw [bits_two]
          split
          · rename_i h
            rw [Bool.and_eq_true] at h
            have h0 := of_decide_eq_true h.2
            have hbi : m.testBit i = false := by
              cases q : m.testBit i with
              | false => rfl
              | true =>
                have : (m &&& (2 ^ i ||| 2 ^ j)).testBit i = true := by simp [q]
                rw [h0] at this; simp at this
            have hbj : m.testBit j = false := by
              cases q : m.testBit j with
              | false => rfl
              | true =>
                have : (m &&& (2 ^ i ||| 2 ^ j)).testBit j = true := by simp [q]
                rw [h0] at this; simp at this
            have u1 := unset_less hi hbi
            have u2 := unset_less (m := m ||| 2 ^ i) hj (by rw [Nat.testBit_or, hbj, Nat.testBit_two_pow]; simp [hij])
            rw [Nat.or_assoc] at u2
            refine Nat.le_trans (tilF_le hR hl n _) (Nat.pow_le_pow_right (by omega) ?_)
            omega
          · exact Nat.zero_le _
        · calc R.length * 32 ^ (unset L m / 2 - 1) ≤ 32 * 32 ^ (unset L m / 2 - 1) := Nat.mul_le_mul_right _ hl
            _ = 32 ^ (unset L m / 2) := by
              rw [Nat.mul_comm, ← Nat.pow_succ]
              congr 1; omega
      · refine Nat.le_trans (sum_map_le (B := 0) fun r hr => ?_) (by simp)
        obtain ⟨i, j, rfl, hi, hj, hij⟩ := hR r hr
        rw [bits_two]
        split
        · rename_i h
          rw [Bool.and_eq_true] at h
          have h0 := of_decide_eq_true h.2
          have hbi : m.testBit i = false := by
            cases q : m.testBit i with
            | false => rfl
            | true =>
              have : (m &&& (2 ^ i ||| 2 ^ j)).testBit i = true := by simp [q]
              rw [h0] at this; simp at this
          have hbj : m.testBit j = false := by
            cases q : m.testBit j with
            | false => rfl
            | true =>
              have : (m &&& (2 ^ i ||| 2 ^ j)).testBit j = true := by simp [q]
              rw [h0] at this; simp at this
          have u1 := unset_less hi hbi
          have u2 := unset_less (m := m ||| 2 ^ i) hj (by rw [Nat.testBit_or, hbj, Nat.testBit_two_pow]; simp [hij])
          omega
        · exact Nat.zero_le _
theorem til_le {L : Nat} {R : List (List Int)} (hR : PairsB L R) (hl : R.length ≤ 32) (hL : L ≤ 16) (m : Nat) : til (2 ^ L - 1) R m ≤ 1099511627776 := by
  refine Nat.le_trans (tilF_le hR hl _ m) (Nat.le_trans (Nat.pow_le_pow_right (by omega) (show unset L m / 2 ≤ 8 from ?_)) (by decide))
  have : unset L m ≤ L := by
    unfold unset
    exact Nat.le_trans (List.length_filter_le _ _) (by simp)
  omega

end Go.Proofs.YtbekeccfjmoonaaDoor
