/- Texts of my own, merged by program: Ke Da. -/
import Derived.Test.YtbekeccfjmoonaaDoorM00
import Init
set_option linter.all false
/- The floors within 4 by 4, 4 of 4 parts: by the kernel. -/
namespace Go.Km

theorem ke0 : all 1024 49152 = true := by decide +kernel
theorem ke1 : all 1024 50176 = true := by decide +kernel
theorem ke2 : all 1024 51200 = true := by decide +kernel
theorem ke3 : all 1024 52224 = true := by decide +kernel
theorem ke4 : all 1024 53248 = true := by decide +kernel
theorem ke5 : all 1024 54272 = true := by decide +kernel
theorem ke6 : all 1024 55296 = true := by decide +kernel
theorem ke7 : all 1024 56320 = true := by decide +kernel
theorem ke8 : all 1024 57344 = true := by decide +kernel
theorem ke9 : all 1024 58368 = true := by decide +kernel
theorem ke10 : all 1024 59392 = true := by decide +kernel
theorem ke11 : all 1024 60416 = true := by decide +kernel
theorem ke12 : all 1024 61440 = true := by decide +kernel
theorem ke13 : all 1024 62464 = true := by decide +kernel
theorem ke14 : all 1024 63488 = true := by decide +kernel
theorem ke15 : all 1024 64512 = true := by decide +kernel
theorem pe (m : Nat) (h1 : 49152 ≤ m) (h2 : m < 65536) : chk m = true := by
  rcases Nat.lt_or_ge m 50176 with h | h
  · exact all_spec 1024 49152 ke0 m (by omega) (by omega)
  rcases Nat.lt_or_ge m 51200 with h | h
  · exact all_spec 1024 50176 ke1 m (by omega) (by omega)
  rcases Nat.lt_or_ge m 52224 with h | h
  · exact all_spec 1024 51200 ke2 m (by omega) (by omega)
  rcases Nat.lt_or_ge m 53248 with h | h
  · exact all_spec 1024 52224 ke3 m (by omega) (by omega)
  rcases Nat.lt_or_ge m 54272 with h | h
  · exact all_spec 1024 53248 ke4 m (by omega) (by omega)
  rcases Nat.lt_or_ge m 55296 with h | h
  · exact all_spec 1024 54272 ke5 m (by omega) (by omega)
  rcases Nat.lt_or_ge m 56320 with h | h
  · exact all_spec 1024 55296 ke6 m (by omega) (by omega)
  rcases Nat.lt_or_ge m 57344 with h | h
  · exact all_spec 1024 56320 ke7 m (by omega) (by omega)
  rcases Nat.lt_or_ge m 58368 with h | h
  · exact all_spec 1024 57344 ke8 m (by omega) (by omega)
  rcases Nat.lt_or_ge m 59392 with h | h
  · exact all_spec 1024 58368 ke9 m (by omega) (by omega)
  rcases Nat.lt_or_ge m 60416 with h | h
  · exact all_spec 1024 59392 ke10 m (by omega) (by omega)
  rcases Nat.lt_or_ge m 61440 with h | h
  · exact all_spec 1024 60416 ke11 m (by omega) (by omega)
  rcases Nat.lt_or_ge m 62464 with h | h
  · exact all_spec 1024 61440 ke12 m (by omega) (by omega)
  rcases Nat.lt_or_ge m 63488 with h | h
  · exact all_spec 1024 62464 ke13 m (by omega) (by omega)
  rcases Nat.lt_or_ge m 64512 with h | h
  · exact all_spec 1024 63488 ke14 m (by omega) (by omega)
  exact all_spec 1024 64512 ke15 m (by omega) (by omega)

end Go.Km

/- Determinants of whole numbers, plainly: matrices as functions. No program. -/
namespace Go.Dt

/-- f 0 + .. + f (n - 1) -/
def sumN (f : Nat → Int) : Nat → Int
  | 0 => 0
  | n + 1 => sumN f n + f n

theorem sum_congr {f g : Nat → Int} : ∀ {n : Nat}, (∀ i, i < n → f i = g i) → sumN f n = sumN g n
  | 0, _ => rfl
  | n + 1, h => by rw [sumN, sumN, sum_congr fun i hi => h i (by omega), h n (by omega)]
theorem sum_add (f g : Nat → Int) : ∀ n, sumN (fun i => f i + g i) n = sumN f n + sumN g n
  | 0 => rfl
  | n + 1 => by simp only [sumN]; rw [sum_add f g n]; omega
theorem sum_mul (c : Int) (f : Nat → Int) : ∀ n, sumN (fun i => c * f i) n = c * sumN f n
  | 0 => by simp [sumN]
  | n + 1 => by simp only [sumN]; rw [sum_mul c f n, Int.mul_add]
theorem sum_neg (f : Nat → Int) : ∀ n, sumN (fun i => - f i) n = - sumN f n
  | 0 => rfl
  | n + 1 => by simp only [sumN]; rw [sum_neg f n]; omega
theorem sum_sub (f g : Nat → Int) (n : Nat) : sumN (fun i => f i - g i) n = sumN f n - sumN g n := by
  rw [show (fun i => f i - g i) = (fun i => f i + - g i) from funext fun i => Int.sub_eq_add_neg, sum_add, sum_neg]; omega
theorem sum_zero : ∀ n, sumN (fun _ => 0) n = 0
  | 0 => rfl
  | n + 1 => by simp only [sumN]; rw [sum_zero n]; rfl
theorem sum_none {f : Nat → Int} {n : Nat} (h : ∀ i, i < n → f i = 0) : sumN f n = 0 := by
  rw [sum_congr h, sum_zero]
theorem sum_head (f : Nat → Int) : ∀ n, sumN f (n + 1) = f 0 + sumN (fun i => f (i + 1)) n
  | 0 => by simp [sumN]
  | n + 1 => by
    show sumN f (n + 1) + f (n + 1) = f 0 + (sumN (fun i => f (i + 1)) n + f (n + 1))
    rw [sum_head f n]; omega
theorem sum_swap (f : Nat → Nat → Int) (m : Nat) : ∀ n, sumN (fun i => sumN (f i) m) n = sumN (fun j => sumN (fun i => f i j) n) m
  | 0 => by simp only [sumN]; rw [sum_zero]
  | n + 1 => by simp only [sumN]; rw [sum_swap f m n, ← sum_add]
theorem sum_one {f : Nat → Int} {n c : Nat} (hc : c < n) (h : ∀ i, i < n → i ≠ c → f i = 0) : sumN f n = f c := by
  induction n with
  | zero => omega
  | succ n ih =>
    simp only [sumN]
    by_cases e : c = n
    · subst e
      rw [sum_none fun i hi => h i (by omega) (by omega)]; omega
    · rw [ih (by omega) fun i hi => h i (by omega), h n (by omega) (by omega)]; omega
theorem sum_two {f : Nat → Int} {n c d : Nat} (hc : c < n) (hd : d < n) (hcd : c ≠ d) (h : ∀ i, i < n → i ≠ c → i ≠ d → f i = 0) : sumN f n = f c + f d := by
  have e : ∀ i, i < n → f i = (if i = c then f c else 0) + (if i = d then f d else 0) := fun i hi => by
    by_cases h1 : i = c
    · subst h1; rw [if_pos rfl, if_neg hcd]; omega
    · by_cases h2 : i = d
      · subst h2; rw [if_neg h1, if_pos rfl]; omega
      · rw [if_neg h1, if_neg h2, h i hi h1 h2]; rfl
  rw [sum_congr e, sum_add, sum_one hc fun i _ hi => if_neg hi, sum_one hd fun i _ hi => if_neg hi, if_pos rfl, if_pos rfl]
theorem sum_nonneg {f : Nat → Int} : ∀ {n : Nat}, (∀ i, i < n → 0 ≤ f i) → 0 ≤ sumN f n
  | 0, _ => Int.le_refl _
  | n + 1, h => by
    have h1 := sum_nonneg fun i (hi : i < n) => h i (by omega)
    have h2 := h n (by omega)
    simp only [sumN]; omega
theorem sum_le {f g : Nat → Int} : ∀ {n : Nat}, (∀ i, i < n → f i ≤ g i) → sumN f n ≤ sumN g n
  | 0, _ => Int.le_refl _
  | n + 1, h => by
    have h1 := sum_le fun i (hi : i < n) => h i (by omega)
    have h2 := h n (by omega)
    simp only [sumN]; omega

def sgn (j : Nat) : Int := if j % 2 = 0 then 1 else -1
theorem sgn_succ (j : Nat) : sgn (j + 1) = - sgn j := by unfold sgn; split <;> split <;> omega
theorem sgn_zero : sgn 0 = 1 := rfl
theorem sgn_abs (j : Nat) : (sgn j).natAbs = 1 := by unfold sgn; split <;> rfl

/-- The numbers without j, in order. -/
def sk (j k : Nat) : Nat := if k < j then k else k + 1
theorem sk_lt {j k : Nat} (h : k < j) : sk j k = k := if_pos h
theorem sk_ge {j k : Nat} (h : j ≤ k) : sk j k = k + 1 := if_neg (by omega)
theorem sk_ne (j k : Nat) : sk j k ≠ j := by unfold sk; split <;> omega
theorem sk_le (j k : Nat) : sk j k ≤ k + 1 := by unfold sk; split <;> omega
theorem sk_inj {j a b : Nat} (h : sk j a = sk j b) : a = b := by unfold sk at h; split at h <;> split at h <;> omega
theorem sk_zero (k : Nat) : sk 0 k = k + 1 := by simp [sk]
theorem sk_succ (j k : Nat) : sk (j + 1) (k + 1) = sk j k + 1 := by unfold sk; split <;> split <;> omega
theorem sk_first (j : Nat) : sk (j + 1) 0 = 0 := by simp [sk]
/-- What number without j comes to c? -/
theorem sk_onto {j c : Nat} (h : c ≠ j) : ∃ k, sk j k = c ∧ k ≤ c ∧ (j < c → k + 1 = c) := by
  by_cases hc : c < j
  · exact ⟨c, sk_lt hc, by omega, by omega⟩
  · exact ⟨c - 1, by rw [sk_ge (by omega)]; omega, by omega, by omega⟩

def det : Nat → (Nat → Nat → Int) → Int
  | 0, _ => 1
  | n + 1, m => sumN (fun j => sgn j * m 0 j * det n fun i k => m (i + 1) (sk j k)) (n + 1)

theorem det_congr : ∀ {n : Nat} {m m' : Nat → Nat → Int}, (∀ i j, i < n → j < n → m i j = m' i j) → det n m = det n m'
  | 0, _, _, _ => rfl
  | n + 1, m, m', h => by
    unfold det
    refine sum_congr fun j hj => ?_
    rw [h 0 j (by omega) hj, det_congr fun i k hi hk => h (i + 1) (sk j k) (by omega) (by have := sk_le j k; omega)]

def setCol (m : Nat → Nat → Int) (c : Nat) (v : Nat → Int) : Nat → Nat → Int := fun i j => if j = c then v i else m i j
def setRow (m : Nat → Nat → Int) (r : Nat) (v : Nat → Int) : Nat → Nat → Int := fun i j => if i = r then v j else m i j
def tr (m : Nat → Nat → Int) : Nat → Nat → Int := fun i j => m j i
def unit (r : Nat) : Nat → Int := fun i => if i = r then 1 else 0

theorem setCol_minor {m : Nat → Nat → Int} {c : Nat} {v : Nat → Int} {j k : Nat} (h : sk j k = c) : (fun i k => setCol m c v (i + 1) (sk j k)) = setCol (fun i k => m (i + 1) (sk j k)) k fun i => v (i + 1) := by
  funext i k'
  unfold setCol
  by_cases e : k' = k
  · subst e; rw [if_pos h, if_pos rfl]
  · rw [if_neg e, if_neg]
    intro h'
    exact e (sk_inj (h'.trans h.symm))
theorem setCol_minor_own {m : Nat → Nat → Int} {c : Nat} {v : Nat → Int} : (fun i k => setCol m c v (i + 1) (sk c k)) = fun i k => m (i + 1) (sk c k) := by
  funext i k
  exact if_neg (sk_ne c k)

/-- Linear in each column. -/
theorem det_col : ∀ {n : Nat} (m : Nat → Nat → Int) {c : Nat} (x y : Int) (f g : Nat → Int), c < n →
    det n (setCol m c fun i => x * f i + y * g i) = x * det n (setCol m c f) + y * det n (setCol m c g)
  | 0, _, c, _, _, _, _, h => by omega
  | n + 1, m, c, x, y, f, g, h => by
    unfold det
    rw [← sum_mul, ← sum_mul, ← sum_add]
    refine sum_congr fun j hj => ?_
    by_cases e : j = c
    · subst e
      rw [setCol_minor_own, setCol_minor_own, setCol_minor_own]
      simp only [setCol, if_pos]
      simp only [Int.mul_add, Int.add_mul, Int.mul_assoc, Int.mul_left_comm]
    · obtain ⟨k, hk, hk1, hk2⟩ := sk_onto (j := j) (c := c) (Ne.symm e)
      rw [setCol_minor hk, setCol_minor hk, setCol_minor hk, det_col _ x y _ _ (by omega)]
      have e' : ¬ j = c := e
      simp only [setCol, if_neg e']
      simp only [Int.mul_add, Int.add_mul, Int.mul_assoc, Int.mul_left_comm]
theorem setCol_self (m : Nat → Nat → Int) (c : Nat) : setCol m c (fun i => m i c) = m := by
  funext i j
  unfold setCol
  split
  · subst_vars; rfl
  · rfl
theorem setCol_twice (m : Nat → Nat → Int) (c : Nat) (f g : Nat → Int) : setCol (setCol m c f) c g = setCol m c g := by
  funext i j
  unfold setCol
  split <;> rfl
theorem setCol_comm (m : Nat → Nat → Int) {c d : Nat} (f g : Nat → Int) (h : c ≠ d) : setCol (setCol m c f) d g = setCol (setCol m d g) c f := by
  funext i j
  unfold setCol
  split
  · rw [if_neg]; subst_vars; exact fun e => h e.symm
  · rfl
theorem det_col_zero {n : Nat} (m : Nat → Nat → Int) {c : Nat} (h : c < n) : det n (setCol m c fun _ => 0) = 0 := by
  have := det_col m (c := c) 0 0 (fun _ => 0) (fun _ => 0) h
  simpa using this
theorem det_col_add {n : Nat} (m : Nat → Nat → Int) {c : Nat} (f g : Nat → Int) (h : c < n) : det n (setCol m c fun i => f i + g i) = det n (setCol m c f) + det n (setCol m c g) := by
  have := det_col m (c := c) 1 1 f g h
  simpa using this
theorem det_col_mul {n : Nat} (m : Nat → Nat → Int) {c : Nat} (x : Int) (f : Nat → Int) (h : c < n) : det n (setCol m c fun i => x * f i) = x * det n (setCol m c f) := by
  have := det_col m (c := c) x 0 f (fun _ => 0) h
  simpa using this
theorem det_col_sum {n : Nat} (m : Nat → Nat → Int) {c : Nat} (x : Nat → Int) (f : Nat → Nat → Int) (h : c < n) : ∀ k, det n (setCol m c fun i => sumN (fun j => x j * f i j) k) = sumN (fun j => x j * det n (setCol m c fun i => f i j)) k
  | 0 => by simp only [sumN]; exact det_col_zero m h
  | k + 1 => by
    simp only [sumN]
    rw [det_col_add m _ _ h, det_col_sum m x f h k, det_col_mul m _ _ h]

/-- Two columns side by side that are alike. -/
theorem det_near : ∀ {n : Nat} (m : Nat → Nat → Int) {c : Nat}, c + 1 < n → (∀ i, i < n → m i c = m i (c + 1)) → det n m = 0
  | 0, _, _, h, _ => by omega
  | n + 1, m, c, h, he => by
    unfold det
    rw [sum_two (c := c) (d := c + 1) (by omega) h (by omega)]
    · have e : det n (fun i k => m (i + 1) (sk (c + 1) k)) = det n (fun i k => m (i + 1) (sk c k)) := det_congr fun i k hi hk => by
        by_cases h1 : k = c
        · subst h1
          rw [sk_lt (by omega), sk_ge (Nat.le_refl _)]
          exact he (i + 1) (by omega)
        · unfold sk
          by_cases h2 : k < c
          · rw [if_pos (by omega), if_pos h2]
          · rw [if_neg (by omega), if_neg h2]
      rw [e, he 0 (by omega), sgn_succ]
      generalize det n _ = d
      rw [Int.neg_mul, Int.neg_mul]; omega
    · intro j hj h1 h2
      rw [show det n (fun i k => m (i + 1) (sk j k)) = 0 from ?_, Int.mul_zero]
      by_cases h3 : j < c
      · refine det_near _ (c := c - 1) (by omega) fun i hi => ?_
        show m (i + 1) (sk j (c - 1)) = m (i + 1) (sk j (c - 1 + 1))
        rw [sk_ge (by omega), sk_ge (by omega), show c - 1 + 1 = c by omega]
        exact he _ (by omega)
      · refine det_near _ (c := c) (by omega) fun i hi => ?_
        show m (i + 1) (sk j c) = m (i + 1) (sk j (c + 1))
        rw [sk_lt (by omega), sk_lt (by omega)]
        exact he _ (by omega)

def sw (c j : Nat) : Nat := if j = c then c + 1 else if j = c + 1 then c else j
theorem sw_sw (c j : Nat) : sw c (sw c j) = j := by unfold sw; split <;> split <;> (try split) <;> omega
theorem sw_left (c : Nat) : sw c c = c + 1 := if_pos rfl
theorem sw_right (c : Nat) : sw c (c + 1) = c := by unfold sw; rw [if_neg (by omega), if_pos rfl]
theorem sw_other {c j : Nat} (h1 : j ≠ c) (h2 : j ≠ c + 1) : sw c j = j := by unfold sw; rw [if_neg h1, if_neg h2]

theorem det_sw {n : Nat} (m : Nat → Nat → Int) {c : Nat} (h : c + 1 < n) : det n (fun i j => m i (sw c j)) = - det n m := by
  have h0 : det n (setCol (setCol m c fun i => m i c + m i (c + 1)) (c + 1) fun i => m i c + m i (c + 1)) = 0 := by
    refine det_near _ h fun i _ => ?_
    unfold setCol
    rw [if_neg (by omega), if_pos rfl, if_pos rfl]
  have hc : ∀ f g : Nat → Int, setCol (setCol m c f) (c + 1) g = setCol (setCol m (c + 1) g) c f := fun f g => setCol_comm m f g (by omega)
  rw [det_col_add _ _ _ h, hc, hc, det_col_add _ _ _ (by omega), det_col_add _ _ _ (by omega)] at h0
  have e1 : det n (setCol (setCol m (c + 1) fun i => m i c) c fun i => m i c) = 0 := det_near _ h fun i _ => by
    unfold setCol; rw [if_pos rfl, if_neg (by omega), if_pos rfl]
  have e2 : det n (setCol (setCol m (c + 1) fun i => m i (c + 1)) c fun i => m i (c + 1)) = 0 := det_near _ h fun i _ => by
    unfold setCol; rw [if_pos rfl, if_neg (by omega), if_pos rfl]
  have e4 : setCol (setCol m (c + 1) fun i => m i (c + 1)) c (fun i => m i c) = m := by rw [setCol_self, setCol_self]
  rw [e1, e2, e4] at h0
  have e3 : (fun i j => m i (sw c j)) = setCol (setCol m (c + 1) fun i => m i c) c fun i => m i (c + 1) := by
    funext i j
    unfold setCol
    by_cases a : j = c
    · subst a; rw [sw_left, if_pos rfl]
    · by_cases b : j = c + 1
      · subst b; rw [sw_right, if_neg (by omega), if_pos rfl]
      · rw [sw_other a b, if_neg a, if_neg b]
  rw [e3]; omega

/-- Two columns that are alike. -/
theorem det_alike {n : Nat} : ∀ (k : Nat) (m : Nat → Nat → Int) {c d : Nat}, d = c + k + 1 → d < n → (∀ i, i < n → m i c = m i d) → det n m = 0
  | 0, m, c, d, e, h, he => by subst e; exact det_near m h he
  | k + 1, m, c, d, e, h, he => by
    subst e
    have h1 := det_sw (n := n) m (c := c + k + 1) (by omega)
    have h2 : det n (fun i j => m i (sw (c + k + 1) j)) = 0 := det_alike k _ (c := c) (d := c + k + 1) rfl (by omega) fun i hi => by
      show m i (sw (c + k + 1) c) = m i (sw (c + k + 1) (c + k + 1))
      rw [sw_left, sw_other (by omega) (by omega)]
      exact he i hi
    omega
theorem det_same {n : Nat} (m : Nat → Nat → Int) {c d : Nat} (hc : c < n) (hd : d < n) (hcd : c ≠ d) (he : ∀ i, i < n → m i c = m i d) : det n m = 0 := by
  by_cases h : c < d
  · exact det_alike (d - c - 1) m (c := c) (d := d) (by omega) hd he
  · exact det_alike (c - d - 1) m (c := d) (d := c) (by omega) hc fun i hi => (he i hi).symm

/-- Cramer: a column is made a combination of all columns. -/
theorem det_combo {n : Nat} (m : Nat → Nat → Int) {c : Nat} (x : Nat → Int) (h : c < n) : det n (setCol m c fun i => sumN (fun j => x j * m i j) n) = x c * det n m := by
  rw [det_col_sum m x m h, sum_one h fun j hj hjc => ?_, setCol_self]
  rw [det_same (c := c) (d := j) _ h hj (Ne.symm hjc), Int.mul_zero]
  intro i _
  unfold setCol
  rw [if_pos rfl, if_neg hjc]
/-- A multiple of a column is added to another one. -/
theorem det_addCol {n : Nat} (m : Nat → Nat → Int) {c d : Nat} (x : Int) (v : Nat → Int) (hc : c < n) (hd : d < n) (hcd : c ≠ d) (he : ∀ i, i < n → v i = m i d) : det n (setCol m c fun i => m i c + x * v i) = det n m := by
  rw [det_col_add _ _ _ hc, det_col_mul _ _ _ hc, setCol_self]
  have h0 : det n (setCol m c v) = 0 := det_same (c := c) (d := d) _ hc hd hcd fun i hi => by
    unfold setCol
    rw [if_pos rfl, if_neg (Ne.symm hcd), he i hi]
  rw [h0]; omega
theorem det_exchange {n : Nat} (m : Nat → Nat → Int) {c d : Nat} (f g : Nat → Int) (hc : c < n) (hd : d < n) (hcd : c ≠ d) : det n (setCol (setCol m c f) d g) = - det n (setCol (setCol m c g) d f) := by
  have h0 : det n (setCol (setCol m c fun i => f i + g i) d fun i => f i + g i) = 0 := by
    refine det_same _ hc hd hcd fun i _ => ?_
    unfold setCol
    rw [if_neg hcd, if_pos rfl, if_pos rfl]
  have hx : ∀ f g : Nat → Int, setCol (setCol m c f) d g = setCol (setCol m d g) c f := fun f g => setCol_comm m f g hcd
  rw [det_col_add _ _ _ hd, hx, hx, det_col_add _ _ _ hc, det_col_add _ _ _ hc] at h0
  have e1 : ∀ f : Nat → Int, det n (setCol (setCol m d f) c f) = 0 := fun f => det_same _ hc hd hcd fun i _ => by
    unfold setCol; rw [if_pos rfl, if_neg (Ne.symm hcd), if_pos rfl]
  rw [e1, e1, ← hx, ← hx] at h0
  omega

/-! ### rows -/
def detC : Nat → (Nat → Nat → Int) → Int
  | 0, _ => 1
  | n + 1, m => sumN (fun i => sgn i * m i 0 * detC n fun a b => m (sk i a) (b + 1)) (n + 1)

theorem det_byCol : ∀ (n : Nat) (m : Nat → Nat → Int), det n m = sumN (fun i => sgn i * m i 0 * det (n - 1) fun a b => m (sk i a) (b + 1)) n + (if n = 0 then 1 else 0)
  | 0, _ => rfl
  | 1, m => by simp [det, sumN]
  | n + 2, m => by
    rw [if_neg (by omega)]
    simp only [Nat.add_one_sub_one, Int.add_zero]
    conv => lhs; unfold det
    rw [sum_head, sum_head (fun i => sgn i * m i 0 * det (n + 1) fun a b => m (sk i a) (b + 1))]
    refine congr (congrArg _ ?_) ?_
    · refine congrArg _ (det_congr fun i k _ _ => ?_)
      rw [sk_zero, sk_zero]
    · have e1 : ∀ j, j < n + 1 → sgn (j + 1) * m 0 (j + 1) * det (n + 1) (fun i k => m (i + 1) (sk (j + 1) k)) = sumN (fun i => sgn (j + 1) * m 0 (j + 1) * (sgn i * m (i + 1) 0 * det n fun a b => m (sk i a + 1) (sk j b + 1))) (n + 1) := fun j _ => by
        rw [det_byCol (n + 1), if_neg (by omega), Int.add_zero, sum_mul]
        refine congrArg _ (sum_congr fun i _ => ?_)
        simp only [sk_first, Nat.add_one_sub_one]
        refine congrArg _ (det_congr fun a b _ _ => ?_)
        rw [sk_succ]
      have e2 : ∀ i, i < n + 1 → sgn (i + 1) * m (i + 1) 0 * det (n + 1) (fun a b => m (sk (i + 1) a) (b + 1)) = sumN (fun j => sgn (i + 1) * m (i + 1) 0 * (sgn j * m 0 (j + 1) * det n fun a b => m (sk i a + 1) (sk j b + 1))) (n + 1) := fun i _ => by
        conv => lhs; unfold det
        rw [sum_mul]
        refine congrArg _ (sum_congr fun j _ => ?_)
        dsimp only
        rw [sk_first]
        refine congrArg _ (det_congr fun a b _ _ => ?_)
        rw [sk_succ]
      rw [sum_congr e1, sum_congr e2, sum_swap]
      refine sum_congr fun i _ => sum_congr fun j _ => ?_
      rw [sgn_succ, sgn_succ]
      generalize det n _ = d
      grind
theorem det_tr : ∀ (n : Nat) (m : Nat → Nat → Int), det n (tr m) = det n m
  | 0, _ => rfl
  | n + 1, m => by
    rw [det_byCol (n + 1) m, if_neg (by omega), Int.add_zero]
    show sumN (fun j => sgn j * tr m 0 j * det n fun i k => tr m (i + 1) (sk j k)) (n + 1) = _
    refine sum_congr fun j _ => ?_
    rw [Nat.add_one_sub_one, ← det_tr n]
    rfl
theorem tr_setRow (m : Nat → Nat → Int) (r : Nat) (v : Nat → Int) : setRow m r v = tr (setCol (tr m) r v) := rfl
theorem det_setRow {n : Nat} (m : Nat → Nat → Int) (r : Nat) (v : Nat → Int) : det n (setRow m r v) = det n (setCol (tr m) r v) := by
  rw [tr_setRow, det_tr]
theorem det_row {n : Nat} (m : Nat → Nat → Int) {r : Nat} (x y : Int) (f g : Nat → Int) (h : r < n) : det n (setRow m r fun i => x * f i + y * g i) = x * det n (setRow m r f) + y * det n (setRow m r g) := by
  rw [det_setRow, det_setRow, det_setRow]; exact det_col _ x y f g h
theorem det_row_sum {n : Nat} (m : Nat → Nat → Int) {r : Nat} (x : Nat → Int) (f : Nat → Nat → Int) (h : r < n) (k : Nat) : det n (setRow m r fun i => sumN (fun j => x j * f j i) k) = sumN (fun j => x j * det n (setRow m r (f j))) k := by
  rw [det_setRow, det_col_sum _ x (fun i j => f j i) h]
  exact sum_congr fun j _ => by rw [det_setRow]
theorem det_row_mul {n : Nat} (m : Nat → Nat → Int) {r : Nat} (x : Int) (f : Nat → Int) (h : r < n) : det n (setRow m r fun i => x * f i) = x * det n (setRow m r f) := by
  rw [det_setRow, det_setRow]; exact det_col_mul _ x f h
theorem det_row_add {n : Nat} (m : Nat → Nat → Int) {r : Nat} (f g : Nat → Int) (h : r < n) : det n (setRow m r fun i => f i + g i) = det n (setRow m r f) + det n (setRow m r g) := by
  rw [det_setRow, det_setRow, det_setRow]; exact det_col_add _ f g h
theorem det_row_zero {n : Nat} (m : Nat → Nat → Int) {r : Nat} (h : r < n) : det n (setRow m r fun _ => 0) = 0 := by
  rw [det_setRow]; exact det_col_zero _ h
theorem det_row_same {n : Nat} (m : Nat → Nat → Int) {r s : Nat} (hr : r < n) (hs : s < n) (hrs : r ≠ s) (he : ∀ i, i < n → m r i = m s i) : det n m = 0 := by
  rw [← det_tr]; exact det_same (tr m) hr hs hrs he
theorem setRow_self (m : Nat → Nat → Int) (r : Nat) : setRow m r (m r) = m := by
  funext i j
  unfold setRow
  split
  · subst_vars; rfl
  · rfl
theorem det_row_combo {n : Nat} (m : Nat → Nat → Int) {r : Nat} (x : Nat → Int) (h : r < n) : det n (setRow m r fun j => sumN (fun i => x i * m i j) n) = x r * det n m := by
  rw [det_setRow, ← det_tr n m]; exact det_combo (tr m) x h
theorem det_row_exchange {n : Nat} (m : Nat → Nat → Int) {c d : Nat} (f g : Nat → Int) (hc : c < n) (hd : d < n) (hcd : c ≠ d) : det n (setRow (setRow m c f) d g) = - det n (setRow (setRow m c g) d f) := by
  rw [det_setRow, det_setRow]; exact det_exchange (tr m) f g hc hd hcd
/-- Rows r and s exchanged. -/
def xch (r s i : Nat) : Nat := if i = r then s else if i = s then r else i
theorem det_xch {n : Nat} (m : Nat → Nat → Int) {r s : Nat} (hr : r < n) (hs : s < n) (hrs : r ≠ s) : det n (fun i j => m (xch r s i) j) = - det n m := by
  have e1 : (fun i j => m (xch r s i) j) = setRow (setRow m r (m s)) s (m r) := by
    funext i j
    unfold setRow xch
    by_cases a : i = r
    · subst a; rw [if_pos rfl, if_neg hrs, if_pos rfl]
    · rw [if_neg a]
      by_cases b : i = s
      · rw [if_pos b, if_pos b]
      · rw [if_neg b, if_neg b, if_neg a]
  have e2 : setRow (setRow m r (m r)) s (m s) = m := by rw [setRow_self, setRow_self]
  rw [e1, det_row_exchange _ _ _ hr hs hrs, e2]

/-! ### columns and rows that are units -/
theorem det_col_first {n : Nat} (m : Nat → Nat → Int) (h : ∀ i, i < n + 1 → m i 0 = if i = 0 then 1 else 0) : det (n + 1) m = det n fun i j => m (i + 1) (j + 1) := by
  rw [det_byCol, if_neg (by omega), Int.add_zero, sum_one (c := 0) (by omega) fun i hi h0 => by rw [h i hi, if_neg h0]; simp]
  rw [h 0 (by omega), if_pos rfl, sgn_zero]
  simp only [Nat.add_one_sub_one, sk_zero, Int.one_mul]
def cyc : Nat → Nat → Nat
  | 0, i => i
  | t + 1, i => sw t (cyc t i)
theorem cyc_zero : ∀ t, cyc t 0 = t
  | 0 => rfl
  | t + 1 => by rw [cyc, cyc_zero t, sw_left]
theorem cyc_succ : ∀ t i, cyc t (i + 1) = sk t i
  | 0, i => (sk_zero i).symm
  | t + 1, i => by
    rw [cyc, cyc_succ t i]
    unfold sk sw
    split <;> split <;> (try split) <;> (try split) <;> omega
theorem det_sw_both {n : Nat} (m : Nat → Nat → Int) {c : Nat} (h : c + 1 < n) : det n (fun i j => m (sw c i) (sw c j)) = det n m := by
  have h1 := det_sw (fun i j => m (sw c i) j) h
  have h2 := det_sw (tr m) h
  have e : det n (fun i j => m (sw c i) j) = det n (fun i j => tr m i (sw c j)) := det_tr n (fun i j => tr m i (sw c j))
  rw [h1, e, h2, det_tr]; omega
theorem det_cyc {n : Nat} : ∀ (t : Nat) (m : Nat → Nat → Int), t < n → det n (fun i j => m (cyc t i) (cyc t j)) = det n m
  | 0, _, _ => rfl
  | t + 1, m, h => (det_cyc t (fun i j => m (sw t i) (sw t j)) (Nat.lt_of_succ_lt h)).trans (det_sw_both m h)
/-- A column that is a unit: the row and the column are left out. -/
theorem det_col_unit {n t : Nat} (m : Nat → Nat → Int) (ht : t < n + 1) : det (n + 1) (setCol m t (unit t)) = det n fun i j => m (sk t i) (sk t j) := by
  rw [← det_cyc t _ ht, det_col_first _ fun i hi => ?_]
  · refine det_congr fun i j _ _ => ?_
    rw [cyc_succ, cyc_succ]
    exact if_neg (sk_ne _ _)
  · rw [cyc_zero]
    unfold setCol unit
    rw [if_pos rfl]
    cases i with
    | zero => rw [cyc_zero, if_pos rfl, if_pos rfl]
    | succ i => rw [cyc_succ, if_neg (sk_ne _ _), if_neg (by omega)]
/-- A column that is a unit of another row: the row may be made a unit, too. -/
theorem det_unit_both {n : Nat} (m : Nat → Nat → Int) {r c : Nat} (hr : r < n) (hc : c < n) : det n (setCol m c (unit r)) = det n (setRow (setCol m c (unit r)) r (unit c)) := by
  have e2 : det n (setCol m c (unit r)) = det n (setRow (setCol m c (unit r)) r fun j => sumN (fun k => setCol m c (unit r) r k * unit k j) n) := by
    refine det_congr fun i j _ hj => ?_
    unfold setRow
    split
    · subst_vars
      dsimp only
      rw [sum_one hj fun k _ hk => by simp [unit, Ne.symm hk]]
      simp [unit]
    · rfl
  rw [e2, det_row_sum _ _ (fun k => unit k) hr, sum_one hc fun k hk hkc => ?_]
  · simp [setCol, unit]
  · have e3 : setRow (setCol m c (unit r)) r (unit k) = setCol (setRow (setCol m c (unit r)) r (unit k)) c fun _ => 0 := by
      funext i j
      simp only [setRow, setCol, unit]
      by_cases a : j = c
      · rw [if_pos a, if_pos a]
        by_cases b : i = r
        · rw [if_pos b, if_neg (by omega)]
        · rw [if_neg b, if_neg b]
      · rw [if_neg a, if_neg a]
    rw [e3, det_col_zero _ hc, Int.mul_zero]

end Go.Dt
