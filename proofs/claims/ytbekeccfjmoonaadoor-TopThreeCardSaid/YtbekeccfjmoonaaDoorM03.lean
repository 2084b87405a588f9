/- Texts of my own, merged by program: Kf Kj. -/
import Derived.Test.YtbekeccfjmoonaaDoorM00
import Derived.Test.YtbekeccfjmoonaaDoorM01
import Derived.Test.YtbekeccfjmoonaaDoorM02
set_option linter.all false
/- Tilings of 4 by 4 cells by what is left, as a function of places (4y + x). Plain, no program. -/
namespace Go.Km

def cut (f : Nat → Bool) (q : Nat) : Nat → Bool := fun x => f x && !(Nat.beq x q)
theorem cut_same (f : Nat → Bool) (q : Nat) : cut f q q = false := by simp [cut]
theorem cut_ne {f : Nat → Bool} {q x : Nat} (h : x ≠ q) : cut f q x = f x := by
  have : Nat.beq x q = false := by
    cases e : Nat.beq x q with
    | false => rfl
    | true => exact absurd (Nat.eq_of_beq_eq_true e) h
  simp [cut, this]
/-- Tilings of the places from 16 - k on that are left. -/
def cntU : Nat → (Nat → Bool) → Nat
  | 0, _ => 1
  | k + 1, f => if f (15 - k) = true then (if (15 - k) % 4 ≠ 3 ∧ f (16 - k) = true then cntU k (cut f (16 - k)) else 0) + (if f (19 - k) = true then cntU k (cut f (19 - k)) else 0) else cntU k f
theorem cntU_congr : ∀ {k : Nat} {f g : Nat → Bool}, k ≤ 16 → (∀ q, 16 - k ≤ q → f q = g q) → cntU k f = cntU k g
  | 0, _, _, _, _ => rfl
  | k + 1, f, g, hk, h => by
    have h0 := h (15 - k) (by omega)
    have h1 := h (16 - k) (by omega)
    have h2 := h (19 - k) (by omega)
    have hc : ∀ q, ∀ x, 16 - k ≤ x → cut f q x = cut g q x := fun q x hx => by unfold cut; rw [h x (by omega)]
    unfold cntU
    rw [h0, h1, h2, cntU_congr (by omega) (hc (16 - k)), cntU_congr (by omega) (hc (19 - k)), cntU_congr (by omega) fun q hq => h q (by omega)]
/-- Places that are not left are passed by. -/
theorem cntU_skip {f : Nat → Bool} : ∀ (d k : Nat), k + d ≤ 16 → (∀ q, 16 - (k + d) ≤ q → q < 16 - k → f q = false) → cntU (k + d) f = cntU k f
  | 0, _, _, _ => rfl
  | d + 1, k, h, hf => by
    rw [show k + (d + 1) = (k + d) + 1 by omega]
    have h0 := hf (15 - (k + d)) (by omega) (by omega)
    rw [cntU, h0, if_neg (by decide)]
    exact cntU_skip d k (by omega) fun q h1 h2 => hf q (by omega) h2
theorem cntU_to {f : Nat → Bool} {a b : Nat} (hab : b ≤ a) (ha : a ≤ 16) (hf : ∀ q, 16 - a ≤ q → q < 16 - b → f q = false) : cntU a f = cntU b f := by
  have := cntU_skip (f := f) (a - b) b (by omega) (by rw [show b + (a - b) = a by omega]; exact hf)
  rwa [show b + (a - b) = a by omega] at this

theorem sub_bit {x i : Nat} (hx : x < 65536) (hi : i = 0 ∨ i = 3) (h : x / 2 ^ i % 2 = 1) : ∀ j, j < 16 → (x - 2 ^ i) / 2 ^ j % 2 = if j = i then 0 else x / 2 ^ j % 2 := by
  intro j hj
  have hj' : j = 0 ∨ j = 1 ∨ j = 2 ∨ j = 3 ∨ j = 4 ∨ j = 5 ∨ j = 6 ∨ j = 7 ∨ j = 8 ∨ j = 9 ∨ j = 10 ∨ j = 11 ∨ j = 12 ∨ j = 13 ∨ j = 14 ∨ j = 15 := by omega
  rcases hi with rfl | rfl
  · have h' : x % 2 = 1 := by simpa using h
    clear h
    rcases hj' with rfl | rfl | rfl | rfl | rfl | rfl | rfl | rfl | rfl | rfl | rfl | rfl | rfl | rfl | rfl | rfl <;> split <;> simp only [Nat.reducePow, Nat.div_one] <;> omega
  · have h' : x / 8 % 2 = 1 := by simpa using h
    clear h
    rcases hj' with rfl | rfl | rfl | rfl | rfl | rfl | rfl | rfl | rfl | rfl | rfl | rfl | rfl | rfl | rfl | rfl <;> split <;> simp only [Nat.reducePow, Nat.div_one] <;> omega
theorem beq_dec (a b : Nat) : Nat.beq a b = decide (a = b) := by
  cases h : Nat.beq a b with
  | true => rw [decide_eq_true (Nat.eq_of_beq_eq_true h)]
  | false => rw [decide_eq_false fun e => by subst e; rw [Nat.beq_refl] at h; cases h]
/-- The numbers' way is the functions'. -/
theorem cntM_eq : ∀ (k U : Nat) (f : Nat → Bool), k ≤ 16 → U < 2 ^ k → (∀ j, j < k → decide (U / 2 ^ j % 2 = 1) = f (16 - k + j)) → (∀ q, 16 ≤ q → f q = false) → cntM k U = cntU k f
  | 0, _, _, _, _, _, _ => rfl
  | k + 1, U, f, hk, hU, hf, hz => by
    have hp : 2 ^ (k + 1) = 2 * 2 ^ k := by rw [Nat.pow_succ]; omega
    have hU2 : U / 2 < 2 ^ k := by omega
    have hb : 2 ^ k ≤ 2 ^ 16 := Nat.pow_le_pow_right (by omega) (by omega)
    have half : ∀ j, j < k → decide (U / 2 / 2 ^ j % 2 = 1) = f (16 - k + j) := fun j hj => by
      have := hf (j + 1) (by omega)
      rw [Nat.div_div_eq_div_mul, ← Nat.pow_succ', this]
      congr 1; omega
    have h0 := hf 0 (by omega)
    rw [Nat.pow_zero, Nat.div_one, Nat.add_zero, show 16 - (k + 1) = 15 - k by omega] at h0
    unfold cntM cntU
    rw [← h0]
    by_cases e0 : U % 2 = 1
    · rw [beq_dec, decide_eq_false (by omega), decide_eq_true e0, cond_false, if_pos rfl]
      have minus : ∀ i, (i = 0 ∨ i = 3) → i < k → U / 2 / 2 ^ i % 2 = 1 → cntM k (U / 2 - 2 ^ i) = cntU k (cut f (16 - k + i)) := fun i hi hik h1 => by
        refine cntM_eq k _ _ (by omega) (Nat.lt_of_le_of_lt (Nat.sub_le _ _) hU2) (fun j hj => ?_) fun q hq => ?_
        · rw [sub_bit (by have : (2 : Nat) ^ 16 = 65536 := rfl; omega) hi h1 j (by omega)]
          by_cases e : j = i
          · subst e
            rw [if_pos rfl, cut_same]; rfl
          · rw [if_neg e, cut_ne (by omega)]
            exact half j hj
        · unfold cut; rw [hz q hq]; rfl
      have hA : (bif Nat.beq (k % 4) 0 then 0 else bif Nat.beq (U / 2 % 2) 1 then cntM k (U / 2 - 1) else 0) = if (15 - k) % 4 ≠ 3 ∧ f (16 - k) = true then cntU k (cut f (16 - k)) else 0 := by
        rw [beq_dec]
        by_cases e1 : k % 4 = 0
        · rw [decide_eq_true e1, cond_true, if_neg (by omega)]
        · rw [decide_eq_false e1, cond_false, beq_dec]
          have h1 := half 0 (by omega)
          rw [Nat.pow_zero, Nat.div_one, Nat.add_zero] at h1
          by_cases e2 : U / 2 % 2 = 1
          · rw [decide_eq_true e2] at h1 ⊢
            rw [cond_true, if_pos ⟨by omega, h1.symm⟩]
            have := minus 0 (.inl rfl) (by omega) (by rw [Nat.pow_zero, Nat.div_one]; exact e2)
            rw [Nat.pow_zero, Nat.add_zero] at this
            exact this
          · rw [decide_eq_false e2] at h1 ⊢
            rw [cond_false, if_neg (fun h => by rw [← h1] at h; exact absurd h.2 (by decide))]
      have hB : (bif Nat.beq (U / 16 % 2) 1 then cntM k (U / 2 - 8) else 0) = if f (19 - k) = true then cntU k (cut f (19 - k)) else 0 := by
        rw [beq_dec]
        by_cases hk3 : 3 < k
        · have h3 := half 3 hk3
          rw [show U / 2 / 2 ^ 3 = U / 16 by omega, show 16 - k + 3 = 19 - k by omega] at h3
          rw [h3]
          by_cases e2 : U / 16 % 2 = 1
          · rw [decide_eq_true e2] at h3
            rw [← h3, cond_true, if_pos rfl]
            have := minus 3 (.inr rfl) hk3 (by omega)
            rw [show 16 - k + 3 = 19 - k by omega] at this
            exact this
          · rw [decide_eq_false e2] at h3
            rw [← h3, cond_false, if_neg (by decide)]
        · have h16 : 2 ^ (k + 1) ≤ 2 ^ 4 := Nat.pow_le_pow_right (by omega) (by omega)
          rw [decide_eq_false (by omega), cond_false, hz (19 - k) (by omega), if_neg (by decide)]
      rw [hA, hB]
    · rw [beq_dec, decide_eq_true (by omega), decide_eq_false e0, cond_true, if_neg (by decide)]
      exact cntM_eq k _ f (by omega) hU2 half hz
theorem cntM_le : ∀ (k U : Nat), cntM k U ≤ 2 ^ k
  | 0, _ => Nat.le_refl _
  | k + 1, U => by
    have h1 := cntM_le k (U / 2)
    have h2 := cntM_le k (U / 2 - 1)
    have h3 := cntM_le k (U / 2 - 8)
    have hp : 2 ^ (k + 1) = 2 ^ k + 2 ^ k := by rw [Nat.pow_succ]; omega
    unfold cntM
    cases Nat.beq (U % 2) 0 <;> cases Nat.beq (k % 4) 0 <;> cases Nat.beq (U / 2 % 2) 1 <;> cases Nat.beq (U / 16 % 2) 1 <;> simp only [cond_true, cond_false] <;> omega

end Go.Km

/- Determinants along the first row, as lists and as functions; all floors of 4 by 4. Plain, no program. -/
namespace Go.Km
open Go.Dt

theorem chk_all (m : Nat) (h : m < 65536) : chk m = true := by
  rcases Nat.lt_or_ge m 16384 with h1 | h1
  · exact pb m (by omega) h1
  rcases Nat.lt_or_ge m 32768 with h2 | h2
  · exact pc m (by omega) h2
  rcases Nat.lt_or_ge m 49152 with h3 | h3
  · exact pd m (by omega) h3
  · exact pe m (by omega) (by omega)
theorem rowL_cons (f : List Nat → Int) (b : Nat) (s : Int) (pre : List Nat) (w : Nat) (r : List Nat) : rowL f b s pre (w :: r) = s * kas b w * f (pre ++ r) + rowL f b (-s) (pre ++ [w]) r := by
  conv => lhs; unfold rowL
  congr 1
  split
  · rename_i h; rw [h]; simp
  · rfl
theorem rowL_sum (f : List Nat → Int) (b : Nat) : ∀ (r pre : List Nat), rowL f b (sgn pre.length) pre r = sumN (fun j => sgn (pre.length + j) * kas b (r.getD j 0) * f (pre ++ r.eraseIdx j)) r.length
  | [], pre => rfl
  | w :: r, pre => by
    rw [rowL_cons, List.length_cons, sum_head]
    have ih := rowL_sum f b r (pre ++ [w])
    rw [List.length_append, List.length_singleton] at ih
    rw [← sgn_succ, ih]
    congr 1
    refine sum_congr fun j _ => ?_
    rw [show pre.length + 1 + j = pre.length + (j + 1) by omega, List.append_assoc]
    rfl
theorem erase_getD (ws : List Nat) (j k : Nat) : (ws.eraseIdx j).getD k 0 = ws.getD (sk j k) 0 := by
  rw [List.getD_eq_getElem?_getD, List.getD_eq_getElem?_getD, List.getElem?_eraseIdx]
  unfold sk
  split <;> rfl
theorem detL_det : ∀ (bs ws : List Nat), bs.length = ws.length → detL bs ws = det bs.length fun i j => kas (bs.getD i 0) (ws.getD j 0)
  | [], _, _ => rfl
  | b :: bs, ws, h => by
    have h0 := rowL_sum (detL bs) b ws []
    rw [List.length_nil, sgn_zero] at h0
    unfold detL
    rw [h0, List.length_cons]
    unfold det
    rw [← h, List.length_cons]
    refine sum_congr fun j hj => ?_
    rw [Nat.zero_add, List.nil_append, detL_det bs (ws.eraseIdx j) (by
      rw [List.length_eraseIdx]
      rw [List.length_cons] at h
      rw [if_pos (by omega)]
      omega)]
    congr 1
    refine det_congr fun i k _ _ => ?_
    rw [erase_getD]
    rfl
def adjB (a b : Nat) : Bool := (Nat.beq (a % 4) (b % 4) && (Nat.beq (a / 4) (b / 4 + 1) || Nat.beq (b / 4) (a / 4 + 1))) || (Nat.beq (a / 4) (b / 4) && (Nat.beq (a % 4) (b % 4 + 1) || Nat.beq (b % 4) (a % 4 + 1)))
theorem kas_eq {a b : Nat} (ha : a < 16) (hb : b < 16) : kas a b = if adjB a b = true then (if Nat.beq (b % 4) (a % 4) = true ∧ Nat.beq (a % 2) 1 = true then -1 else 1) else 0 := by
  have : ∀ a : Fin 16, ∀ b : Fin 16, kas a.1 b.1 = if adjB a.1 b.1 = true then (if Nat.beq (b.1 % 4) (a.1 % 4) = true ∧ Nat.beq (a.1 % 2) 1 = true then -1 else 1) else 0 := by decide +kernel
  exact this ⟨a, ha⟩ ⟨b, hb⟩
/-- What Kasteleyn is to give. -/
def kasD (m : Nat) : Int := if (blacks.filter (bit m)).length = (whites.filter (bit m)).length then detL (blacks.filter (bit m)) (whites.filter (bit m)) else 0
theorem kasD_ok (m : Nat) (h : m < 65536) : (kasD m).natAbs ≤ cntM 16 m ∧ (holed m = false → (kasD m).natAbs = cntM 16 m) := by
  have hc := chk_all m h
  unfold chk at hc
  dsimp only at hc
  rw [beq_dec (blacks.filter (bit m)).length] at hc
  unfold kasD
  by_cases e : (blacks.filter (bit m)).length = (whites.filter (bit m)).length
  · simp only [decide_eq_true e, cond_true, Bool.and_eq_true, Nat.ble_eq, Bool.or_eq_true] at hc
    rw [if_pos e]
    refine ⟨hc.1, fun hh => ?_⟩
    rcases hc.2 with h1 | h1
    · exact Nat.eq_of_beq_eq_true h1
    · rw [hh] at h1; cases h1
  · simp only [decide_eq_false e, cond_false] at hc
    rw [if_neg e]
    have := Nat.eq_of_beq_eq_true hc
    exact ⟨Nat.zero_le _, fun _ => this.symm⟩

end Go.Km
