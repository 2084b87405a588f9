/- Texts of my own, merged by program: Da Db Ka. -/
import Init
import Derived.Test.YtkdcldbedbagjaaDoorN04
set_option linter.all false
/- Determinants of whole numbers, plainly: matrices as functions. No program. -/
namespace Go.Dt

/-- f 0 + .. + f (n - 1) -/
def sumN (f : Nat → Int) : Nat → Int
  | 0 => 0
  | n + 1 => sumN f n + f n

theorem sum_congr {f g : Nat → Int} : ∀ {n : Nat}, (∀ i, i < n → f i = g i) → sumN f n = sumN g n
  | 0, _ => rfl
  | n + 1, h => by rw [sumN, sumN, sum_congr fun i hi => h i (by omega), h n (by omega)]
theorem sum_add (f g : Nat → Int) : ∀ n, sumN (fun i => f i + g i) n = sumN f n + sumN g n
  | 0 => rfl
  | n + 1 => by simp only [sumN]; rw [sum_add f g n]; omega
theorem sum_mul (c : Int) (f : Nat → Int) : ∀ n, sumN (fun i => c * f i) n = c * sumN f n
  | 0 => by simp [sumN]
  | n + 1 => by simp only [sumN]; rw [sum_mul c f n, Int.mul_add]
theorem sum_neg (f : Nat → Int) : ∀ n, sumN (fun i => - f i) n = - sumN f n
  | 0 => rfl
  | n + 1 => by simp only [sumN]; rw [sum_neg f n]; omega
theorem sum_sub (f g : Nat → Int) (n : Nat) : sumN (fun i => f i - g i) n = sumN f n - sumN g n := by
  rw [show (fun i => f i - g i) = (fun i => f i + - g i) from funext fun i => Int.sub_eq_add_neg, sum_add, sum_neg]; omega
theorem sum_zero : ∀ n, sumN (fun _ => 0) n = 0
  | 0 => rfl
  | n + 1 => by simp only [sumN]; rw [sum_zero n]; rfl
theorem sum_none {f : Nat → Int} {n : Nat} (h : ∀ i, i < n → f i = 0) : sumN f n = 0 := by
  rw [sum_congr h, sum_zero]
theorem sum_head (f : Nat → Int) : ∀ n, sumN f (n + 1) = f 0 + sumN (fun i => f (i + 1)) n
  | 0 => by simp [sumN]
  | n + 1 => by
    show sumN f (n + 1) + f (n + 1) = f 0 + (sumN (fun i => f (i + 1)) n + f (n + 1))
    rw [sum_head f n]; omega
theorem sum_swap (f : Nat → Nat → Int) (m : Nat) : ∀ n, sumN (fun i => sumN (f i) m) n = sumN (fun j => sumN (fun i => f i j) n) m
  | 0 => by simp only [sumN]; rw [sum_zero]
  | n + 1 => by simp only [sumN]; rw [sum_swap f m n, ← sum_add]
theorem sum_one {f : Nat → Int} {n c : Nat} (hc : c < n) (h : ∀ i, i < n → i ≠ c → f i = 0) : sumN f n = f c := by
  induction n with
  | zero => omega
  | succ n ih =>
    simp only [sumN]
    by_cases e : c = n
    · subst e
      rw [sum_none fun i hi => h i (by omega) (by omega)]; omega
    · rw [ih (by omega) fun i hi => h i (by omega), h n (by omega) (by omega)]; omega
theorem sum_two {f : Nat → Int} {n c d : Nat} (hc : c < n) (hd : d < n) (hcd : c ≠ d) (h : ∀ i, i < n → i ≠ c → i ≠ d → f i = 0) : sumN f n = f c + f d := by
  have e : ∀ i, i < n → f i = (if i = c then f c else 0) + (if i = d then f d else 0) := fun i hi => by
    by_cases h1 : i = c
    · subst h1; rw [if_pos rfl, if_neg hcd]; omega
    · by_cases h2 : i = d
      · subst h2; rw [if_neg h1, if_pos rfl]; omega
      · rw [if_neg h1, if_neg h2, h i hi h1 h2]; rfl
  rw [sum_congr e, sum_add, sum_one hc fun i _ hi => if_neg hi, sum_one hd fun i _ hi => if_neg hi, if_pos rfl, if_pos rfl]
theorem sum_nonneg {f : Nat → Int} : ∀ {n : Nat}, (∀ i, i < n → 0 ≤ f i) → 0 ≤ sumN f n
  | 0, _ => Int.le_refl _
  | n + 1, h => by
    have h1 := sum_nonneg fun i (hi : i < n) => h i (by omega)
    have h2 := h n (by omega)
    simp only [sumN]; omega
theorem sum_le {f g : Nat → Int} : ∀ {n : Nat}, (∀ i, i < n → f i ≤ g i) → sumN f n ≤ sumN g n
  | 0, _ => Int.le_refl _
  | n + 1, h => by
    have h1 := sum_le fun i (hi : i < n) => h i (by omega)
    have h2 := h n (by omega)
    simp only [sumN]; omega

def sgn (j : Nat) : Int := if j % 2 = 0 then 1 else -1
theorem sgn_succ (j : Nat) : sgn (j + 1) = - sgn j := by unfold sgn; split <;> split <;> omega
theorem sgn_zero : sgn 0 = 1 := rfl
theorem sgn_abs (j : Nat) : (sgn j).natAbs = 1 := by unfold sgn; split <;> rfl

/-- The numbers without j, in order. -/
def sk (j k : Nat) : Nat := if k < j then k else k + 1
theorem sk_lt {j k : Nat} (h : k < j) : sk j k = k := if_pos h
theorem sk_ge {j k : Nat} (h : j ≤ k) : sk j k = k + 1 := if_neg (by omega)
theorem sk_ne (j k : Nat) : sk j k ≠ j := by unfold sk; split <;> omega
theorem sk_le (j k : Nat) : sk j k ≤ k + 1 := by unfold sk; split <;> omega
theorem sk_inj {j a b : Nat} (h : sk j a = sk j b) : a = b := by unfold sk at h; split at h <;> split at h <;> omega
theorem sk_zero (k : Nat) : sk 0 k = k + 1 := by simp [sk]
theorem sk_succ (j k : Nat) : sk (j + 1) (k + 1) = sk j k + 1 := by unfold sk; split <;> split <;> omega
theorem sk_first (j : Nat) : sk (j + 1) 0 = 0 := by simp [sk]
/-- What number without j comes to c? -/
theorem sk_onto {j c : Nat} (h : c ≠ j) : ∃ k, sk j k = c ∧ k ≤ c ∧ (j < c → k + 1 = c) := by
  by_cases hc : c < j
  · exact ⟨c, sk_lt hc, by omega, by omega⟩
  · exact ⟨c - 1, by rw [sk_ge (by omega)]; omega, by omega, by omega⟩

def det : Nat → (Nat → Nat → Int) → Int
  | 0, _ => 1
  | n + 1, m => sumN (fun j => sgn j * m 0 j * det n fun i k => m (i + 1) (sk j k)) (n + 1)

theorem det_congr : ∀ {n : Nat} {m m' : Nat → Nat → Int}, (∀ i j, i < n → j < n → m i j = m' i j) → det n m = det n m'
  | 0, _, _, _ => rfl
  | n + 1, m, m', h => by
    unfold det
    refine sum_congr fun j hj => ?_
    rw [h 0 j (by omega) hj, det_congr fun i k hi hk => h (i + 1) (sk j k) (by omega) (by have := sk_le j k; omega)]

def setCol (m : Nat → Nat → Int) (c : Nat) (v : Nat → Int) : Nat → Nat → Int := fun i j => if j = c then v i else m i j
def setRow (m : Nat → Nat → Int) (r : Nat) (v : Nat → Int) : Nat → Nat → Int := fun i j => if i = r then v j else m i j
def tr (m : Nat → Nat → Int) : Nat → Nat → Int := fun i j => m j i
def unit (r : Nat) : Nat → Int := fun i => if i = r then 1 else 0

theorem setCol_minor {m : Nat → Nat → Int} {c : Nat} {v : Nat → Int} {j k : Nat} (h : sk j k = c) : (fun i k => setCol m c v (i + 1) (sk j k)) = setCol (fun i k => m (i + 1) (sk j k)) k fun i => v (i + 1) := by
  funext i k'
  unfold setCol
  by_cases e : k' = k
  · subst e; rw [if_pos h, if_pos rfl]
  · rw [if_neg e, if_neg]
    intro h'
    exact e (sk_inj (h'.trans h.symm))
theorem setCol_minor_own {m : Nat → Nat → Int} {c : Nat} {v : Nat → Int} : (fun i k => setCol m c v (i + 1) (sk c k)) = fun i k => m (i + 1) (sk c k) := by
  funext i k
  exact if_neg (sk_ne c k)

/-- Linear in each column. -/
theorem det_col : ∀ {n : Nat} (m : Nat → Nat → Int) {c : Nat} (x y : Int) (f g : Nat → Int), c < n →
    det n (setCol m c fun i => x * f i + y * g i) = x * det n (setCol m c f) + y * det n (setCol m c g)
  | 0, _, c, _, _, _, _, h => by omega
  | n + 1, m, c, x, y, f, g, h => by
    unfold det
    rw [← sum_mul, ← sum_mul, ← sum_add]
    refine sum_congr fun j hj => ?_
    by_cases e : j = c
    · subst e
      rw [setCol_minor_own, setCol_minor_own, setCol_minor_own]
      simp only [setCol, if_pos]
      simp only [Int.mul_add, Int.add_mul, Int.mul_assoc, Int.mul_left_comm]
    · obtain ⟨k, hk, hk1, hk2⟩ := sk_onto (j := j) (c := c) (Ne.symm e)
      rw [setCol_minor hk, setCol_minor hk, setCol_minor hk, det_col _ x y _ _ (by omega)]
      have e' : ¬ j = c := e
      simp only [setCol, if_neg e']
      simp only [Int.mul_add, Int.add_mul, Int.mul_assoc, Int.mul_left_comm]
theorem setCol_self (m : Nat → Nat → Int) (c : Nat) : setCol m c (fun i => m i c) = m := by
  funext i j
  unfold setCol
  split
  · subst_vars; rfl
  · rfl
theorem setCol_twice (m : Nat → Nat → Int) (c : Nat) (f g : Nat → Int) : setCol (setCol m c f) c g = setCol m c g := by
  funext i j
  unfold setCol
  split <;> rfl
theorem setCol_comm (m : Nat → Nat → Int) {c d : Nat} (f g : Nat → Int) (h : c ≠ d) : setCol (setCol m c f) d g = setCol (setCol m d g) c f := by
  funext i j
  unfold setCol
  split
  · rw [if_neg]; subst_vars; exact fun e => h e.symm
  · rfl
theorem det_col_zero {n : Nat} (m : Nat → Nat → Int) {c : Nat} (h : c < n) : det n (setCol m c fun _ => 0) = 0 := by
  have := det_col m (c := c) 0 0 (fun _ => 0) (fun _ => 0) h
  simpa using this
theorem det_col_add {n : Nat} (m : Nat → Nat → Int) {c : Nat} (f g : Nat → Int) (h : c < n) : det n (setCol m c fun i => f i + g i) = det n (setCol m c f) + det n (setCol m c g) := by
  have := det_col m (c := c) 1 1 f g h
  simpa using this
theorem det_col_mul {n : Nat} (m : Nat → Nat → Int) {c : Nat} (x : Int) (f : Nat → Int) (h : c < n) : det n (setCol m c fun i => x * f i) = x * det n (setCol m c f) := by
  have := det_col m (c := c) x 0 f (fun _ => 0) h
  simpa using this
theorem det_col_sum {n : Nat} (m : Nat → Nat → Int) {c : Nat} (x : Nat → Int) (f : Nat → Nat → Int) (h : c < n) : ∀ k, det n (setCol m c fun i => sumN (fun j => x j * f i j) k) = sumN (fun j => x j * det n (setCol m c fun i => f i j)) k
  | 0 => by simp only [sumN]; exact det_col_zero m h
  | k + 1 => by
    simp only [sumN]
    rw [det_col_add m _ _ h, det_col_sum m x f h k, det_col_mul m _ _ h]

/-- Two columns side by side that are alike. -/
theorem det_near : ∀ {n : Nat} (m : Nat → Nat → Int) {c : Nat}, c + 1 < n → (∀ i, i < n → m i c = m i (c + 1)) → det n m = 0
  | 0, _, _, h, _ => by omega
  | n + 1, m, c, h, he => by
    unfold det
    rw [sum_two (c := c) (d := c + 1) (by omega) h (by omega)]
    · have e : det n (fun i k => m (i + 1) (sk (c + 1) k)) = det n (fun i k => m (i + 1) (sk c k)) := det_congr fun i k hi hk => by
        by_cases h1 : k = c
        · subst h1
          rw [sk_lt (by omega), sk_ge (Nat.le_refl _)]
          exact he (i + 1) (by omega)
        · unfold sk
          by_cases h2 : k < c
          · rw [if_pos (by omega), if_pos h2]
          · rw [if_neg (by omega), if_neg h2]
      rw [e, he 0 (by omega), sgn_succ]
      generalize det n _ = d
      rw [Int.neg_mul, Int.neg_mul]; omega
    · intro j hj h1 h2
      rw [show det n (fun i k => m (i + 1) (sk j k)) = 0 from ?_, Int.mul_zero]
      by_cases h3 : j < c
      · refine det_near _ (c := c - 1) (by omega) fun i hi => ?_
        show m (i + 1) (sk j (c - 1)) = m (i + 1) (sk j (c - 1 + 1))
        rw [sk_ge (by omega), sk_ge (by omega), show c - 1 + 1 = c by omega]
        exact he _ (by omega)
      · refine det_near _ (c := c) (by omega) fun i hi => ?_
        show m (i + 1) (sk j c) = m (i + 1) (sk j (c + 1))
        rw [sk_lt (by omega), sk_lt (by omega)]
        exact he _ (by omega)

def sw (c j : Nat) : Nat := if j = c then c + 1 else if j = c + 1 then c else j
theorem sw_sw (c j : Nat) : sw c (sw c j) = j := by unfold sw; split <;> split <;> (try split) <;> omega
theorem sw_left (c : Nat) : sw c c = c + 1 := if_pos rfl
theorem sw_right (c : Nat) : sw c (c + 1) = c := by unfold sw; rw [if_neg (by omega), if_pos rfl]
theorem sw_other {c j : Nat} (h1 : j ≠ c) (h2 : j ≠ c + 1) : sw c j = j := by unfold sw; rw [if_neg h1, if_neg h2]

theorem det_sw {n : Nat} (m : Nat → Nat → Int) {c : Nat} (h : c + 1 < n) : det n (fun i j => m i (sw c j)) = - det n m := by
  have h0 : det n (setCol (setCol m c fun i => m i c + m i (c + 1)) (c + 1) fun i => m i c + m i (c + 1)) = 0 := by
    refine det_near _ h fun i _ => ?_
    unfold setCol
    rw [if_neg (by omega), if_pos rfl, if_pos rfl]
  have hc : ∀ f g : Nat → Int, setCol (setCol m c f) (c + 1) g = setCol (setCol m (c + 1) g) c f := fun f g => setCol_comm m f g (by omega)
  rw [det_col_add _ _ _ h, hc, hc, det_col_add _ _ _ (by omega), det_col_add _ _ _ (by omega)] at h0
  have e1 : det n (setCol (setCol m (c + 1) fun i => m i c) c fun i => m i c) = 0 := det_near _ h fun i _ => by
    unfold setCol; rw [if_pos rfl, if_neg (by omega), if_pos rfl]
  have e2 : det n (setCol (setCol m (c + 1) fun i => m i (c + 1)) c fun i => m i (c + 1)) = 0 := det_near _ h fun i _ => by
    unfold setCol; rw [if_pos rfl, if_neg (by omega), if_pos rfl]
  have e4 : setCol (setCol m (c + 1) fun i => m i (c + 1)) c (fun i => m i c) = m := by rw [setCol_self, setCol_self]
  rw [e1, e2, e4] at h0
  have e3 : (fun i j => m i (sw c j)) = setCol (setCol m (c + 1) fun i => m i c) c fun i => m i (c + 1) := by
    funext i j
    unfold setCol
    by_cases a : j = c
    · subst a; rw [sw_left, if_pos rfl]
    · by_cases b : j = c + 1
      · subst b; rw [sw_right, if_neg (by omega), if_pos rfl]
      · rw [sw_other a b, if_neg a, if_neg b]
  rw [e3]; omega

/-- Two columns that are alike. -/
theorem det_alike {n : Nat} : ∀ (k : Nat) (m : Nat → Nat → Int) {c d : Nat}, d = c + k + 1 → d < n → (∀ i, i < n → m i c = m i d) → det n m = 0
  | 0, m, c, d, e, h, he => by subst e; exact det_near m h he
  | k + 1, m, c, d, e, h, he => by
    subst e
    have h1 := det_sw (n := n) m (c := c + k + 1) (by omega)
    have h2 : det n (fun i j => m i (sw (c + k + 1) j)) = 0 := det_alike k _ (c := c) (d := c + k + 1) rfl (by omega) fun i hi => by
      show m i (sw (c + k + 1) c) = m i (sw (c + k + 1) (c + k + 1))
      rw [sw_left, sw_other (by omega) (by omega)]
      exact he i hi
    omega
theorem det_same {n : Nat} (m : Nat → Nat → Int) {c d : Nat} (hc : c < n) (hd : d < n) (hcd : c ≠ d) (he : ∀ i, i < n → m i c = m i d) : det n m = 0 := by
  by_cases h : c < d
  · exact det_alike (d - c - 1) m (c := c) (d := d) (by omega) hd he
  · exact det_alike (c - d - 1) m (c := d) (d := c) (by omega) hc fun i hi => (he i hi).symm

/-- Cramer: a column is made a combination of all columns. -/
theorem det_combo {n : Nat} (m : Nat → Nat → Int) {c : Nat} (x : Nat → Int) (h : c < n) : det n (setCol m c fun i => sumN (fun j => x j * m i j) n) = x c * det n m := by
  rw [det_col_sum m x m h, sum_one h fun j hj hjc => ?_, setCol_self]
  rw [det_same (c := c) (d := j) _ h hj (Ne.symm hjc), Int.mul_zero]
  intro i _
  unfold setCol
  rw [if_pos rfl, if_neg hjc]
/-- A multiple of a column is added to another one. -/
theorem det_addCol {n : Nat} (m : Nat → Nat → Int) {c d : Nat} (x : Int) (v : Nat → Int) (hc : c < n) (hd : d < n) (hcd : c ≠ d) (he : ∀ i, i < n → v i = m i d) : det n (setCol m c fun i => m i c + x * v i) = det n m := by
  rw [det_col_add _ _ _ hc, det_col_mul _ _ _ hc, setCol_self]
  have h0 : det n (setCol m c v) = 0 := det_same (c := c) (d := d) _ hc hd hcd fun i hi => by
    unfold setCol
    rw [if_pos rfl, if_neg (Ne.symm hcd), he i hi]
  rw [h0]; omega
theorem det_exchange {n : Nat} (m : Nat → Nat → Int) {c d : Nat} (f g : Nat → Int) (hc : c < n) (hd : d < n) (hcd : c ≠ d) : det n (setCol (setCol m c f) d g) = - det n (setCol (setCol m c g) d f) := by
  have h0 : det n (setCol (setCol m c fun i => f i + g i) d fun i => f i + g i) = 0 := by
    refine det_same _ hc hd hcd fun i _ => ?_
    unfold setCol
    rw [if_neg hcd, if_pos rfl, if_pos rfl]
  have hx : ∀ f g : Nat → Int, setCol (setCol m c f) d g = setCol (setCol m d g) c f := fun f g => setCol_comm m f g hcd
  rw [det_col_add _ _ _ hd, hx, hx, det_col_add _ _ _ hc, det_col_add _ _ _ hc] at h0
  have e1 : ∀ f : Nat → Int, det n (setCol (setCol m d f) c f) = 0 := fun f => det_same _ hc hd hcd fun i _ => by
    unfold setCol; rw [if_pos rfl, if_neg (Ne.symm hcd), if_pos rfl]
  rw [e1, e1, ← hx, ← hx] at h0
  omega

/-! ### rows -/
def detC : Nat → (Nat → Nat → Int) → Int
  | 0, _ => 1
  | n + 1, m => sumN (fun i => sgn i * m i 0 * detC n fun a b => m (sk i a) (b + 1)) (n + 1)

theorem det_byCol : ∀ (n : Nat) (m : Nat → Nat → Int), det n m = sumN (fun i => sgn i * m i 0 * det (n - 1) fun a b => m (sk i a) (b + 1)) n + (if n = 0 then 1 else 0)
  | 0, _ => rfl
  | 1, m => by simp [det, sumN]
  | n + 2, m => by
    rw [if_neg (by omega)]
    simp only [Nat.add_one_sub_one, Int.add_zero]
    conv => lhs; unfold det
    rw [sum_head, sum_head (fun i => sgn i * m i 0 * det (n + 1) fun a b => m (sk i a) (b + 1))]
    refine congr (congrArg _ ?_) ?_
    · refine congrArg _ (det_congr fun i k _ _ => ?_)
      rw [sk_zero, sk_zero]
    · have e1 : ∀ j, j < n + 1 → sgn (j + 1) * m 0 (j + 1) * det (n + 1) (fun i k => m (i + 1) (sk (j + 1) k)) = sumN (fun i => sgn (j + 1) * m 0 (j + 1) * (sgn i * m (i + 1) 0 * det n fun a b => m (sk i a + 1) (sk j b + 1))) (n + 1) := fun j _ => by
        rw [det_byCol (n + 1), if_neg (by omega), Int.add_zero, sum_mul]
        refine congrArg _ (sum_congr fun i _ => ?_)
        simp only [sk_first, Nat.add_one_sub_one]
        refine congrArg _ (det_congr fun a b _ _ => ?_)
        rw [sk_succ]
      have e2 : ∀ i, i < n + 1 → sgn (i + 1) * m (i + 1) 0 * det (n + 1) (fun a b => m (sk (i + 1) a) (b + 1)) = sumN (fun j => sgn (i + 1) * m (i + 1) 0 * (sgn j * m 0 (j + 1) * det n fun a b => m (sk i a + 1) (sk j b + 1))) (n + 1) := fun i _ => by
        conv => lhs; unfold det
        rw [sum_mul]
        refine congrArg _ (sum_congr fun j _ => ?_)
        dsimp only
        rw [sk_first]
        refine congrArg _ (det_congr fun a b _ _ => ?_)
        rw [sk_succ]
      rw [sum_congr e1, sum_congr e2, sum_swap]
      refine sum_congr fun i _ => sum_congr fun j _ => ?_
      rw [sgn_succ, sgn_succ]
      generalize det n _ = d
      grind
theorem det_tr : ∀ (n : Nat) (m : Nat → Nat → Int), det n (tr m) = det n m
  | 0, _ => rfl
  | n + 1, m => by
    rw [det_byCol (n + 1) m, if_neg (by omega), Int.add_zero]
    show sumN (fun j => sgn j * tr m 0 j * det n fun i k => tr m (i + 1) (sk j k)) (n + 1) = _
    refine sum_congr fun j _ => ?_
    rw [Nat.add_one_sub_one, ← det_tr n]
    rfl
theorem tr_setRow (m : Nat → Nat → Int) (r : Nat) (v : Nat → Int) : setRow m r v = tr (setCol (tr m) r v) := rfl
theorem det_setRow {n : Nat} (m : Nat → Nat → Int) (r : Nat) (v : Nat → Int) : det n (setRow m r v) = det n (setCol (tr m) r v) := by
  rw [tr_setRow, det_tr]
theorem det_row {n : Nat} (m : Nat → Nat → Int) {r : Nat} (x y : Int) (f g : Nat → Int) (h : r < n) : det n (setRow m r fun i => x * f i + y * g i) = x * det n (setRow m r f) + y * det n (setRow m r g) := by
  rw [det_setRow, det_setRow, det_setRow]; exact det_col _ x y f g h
theorem det_row_sum {n : Nat} (m : Nat → Nat → Int) {r : Nat} (x : Nat → Int) (f : Nat → Nat → Int) (h : r < n) (k : Nat) : det n (setRow m r fun i => sumN (fun j => x j * f j i) k) = sumN (fun j => x j * det n (setRow m r (f j))) k := by
  rw [det_setRow, det_col_sum _ x (fun i j => f j i) h]
  exact sum_congr fun j _ => by rw [det_setRow]
theorem det_row_mul {n : Nat} (m : Nat → Nat → Int) {r : Nat} (x : Int) (f : Nat → Int) (h : r < n) : det n (setRow m r fun i => x * f i) = x * det n (setRow m r f) := by
  rw [det_setRow, det_setRow]; exact det_col_mul _ x f h
theorem det_row_add {n : Nat} (m : Nat → Nat → Int) {r : Nat} (f g : Nat → Int) (h : r < n) : det n (setRow m r fun i => f i + g i) = det n (setRow m r f) + det n (setRow m r g) := by
  rw [det_setRow, det_setRow, det_setRow]; exact det_col_add _ f g h
theorem det_row_zero {n : Nat} (m : Nat → Nat → Int) {r : Nat} (h : r < n) : det n (setRow m r fun _ => 0) = 0 := by
  rw [det_setRow]; exact det_col_zero _ h
theorem det_row_same {n : Nat} (m : Nat → Nat → Int) {r s : Nat} (hr : r < n) (hs : s < n) (hrs : r ≠ s) (he : ∀ i, i < n → m r i = m s i) : det n m = 0 := by
  rw [← det_tr]; exact det_same (tr m) hr hs hrs he
theorem setRow_self (m : Nat → Nat → Int) (r : Nat) : setRow m r (m r) = m := by
  funext i j
  unfold setRow
  split
  · subst_vars; rfl
  · rfl
theorem det_row_combo {n : Nat} (m : Nat → Nat → Int) {r : Nat} (x : Nat → Int) (h : r < n) : det n (setRow m r fun j => sumN (fun i => x i * m i j) n) = x r * det n m := by
  rw [det_setRow, ← det_tr n m]; exact det_combo (tr m) x h
theorem det_row_exchange {n : Nat} (m : Nat → Nat → Int) {c d : Nat} (f g : Nat → Int) (hc : c < n) (hd : d < n) (hcd : c ≠ d) : det n (setRow (setRow m c f) d g) = - det n (setRow (setRow m c g) d f) := by
  rw [det_setRow, det_setRow]; exact det_exchange (tr m) f g hc hd hcd
/-- Rows r and s exchanged. -/
def xch (r s i : Nat) : Nat := if i = r then s else if i = s then r else i
theorem det_xch {n : Nat} (m : Nat → Nat → Int) {r s : Nat} (hr : r < n) (hs : s < n) (hrs : r ≠ s) : det n (fun i j => m (xch r s i) j) = - det n m := by
  have e1 : (fun i j => m (xch r s i) j) = setRow (setRow m r (m s)) s (m r) := by
    funext i j
    unfold setRow xch
    by_cases a : i = r
    · subst a; rw [if_pos rfl, if_neg hrs, if_pos rfl]
    · rw [if_neg a]
      by_cases b : i = s
      · rw [if_pos b, if_pos b]
      · rw [if_neg b, if_neg b, if_neg a]
  have e2 : setRow (setRow m r (m r)) s (m s) = m := by rw [setRow_self, setRow_self]
  rw [e1, det_row_exchange _ _ _ hr hs hrs, e2]

/-! ### columns and rows that are units -/
theorem det_col_first {n : Nat} (m : Nat → Nat → Int) (h : ∀ i, i < n + 1 → m i 0 = if i = 0 then 1 else 0) : det (n + 1) m = det n fun i j => m (i + 1) (j + 1) := by
  rw [det_byCol, if_neg (by omega), Int.add_zero, sum_one (c := 0) (by omega) fun i hi h0 => by rw [h i hi, if_neg h0]; simp]
  rw [h 0 (by omega), if_pos rfl, sgn_zero]
  simp only [Nat.add_one_sub_one, sk_zero, Int.one_mul]
def cyc : Nat → Nat → Nat
  | 0, i => i
  | t + 1, i => sw t (cyc t i)
theorem cyc_zero : ∀ t, cyc t 0 = t
  | 0 => rfl
  | t + 1 => by rw [cyc, cyc_zero t, sw_left]
theorem cyc_succ : ∀ t i, cyc t (i + 1) = sk t i
  | 0, i => (sk_zero i).symm
  | t + 1, i => by
    rw [cyc, cyc_succ t i]
    unfold sk sw
    split <;> split <;> (try split) <;> (try split) <;> omega
theorem det_sw_both {n : Nat} (m : Nat → Nat → Int) {c : Nat} (h : c + 1 < n) : det n (fun i j => m (sw c i) (sw c j)) = det n m := by
  have h1 := det_sw (fun i j => m (sw c i) j) h
  have h2 := det_sw (tr m) h
  have e : det n (fun i j => m (sw c i) j) = det n (fun i j => tr m i (sw c j)) := det_tr n (fun i j => tr m i (sw c j))
  rw [h1, e, h2, det_tr]; omega
theorem det_cyc {n : Nat} : ∀ (t : Nat) (m : Nat → Nat → Int), t < n → det n (fun i j => m (cyc t i) (cyc t j)) = det n m
  | 0, _, _ => rfl
  | t + 1, m, h => (det_cyc t (fun i j => m (sw t i) (sw t j)) (Nat.lt_of_succ_lt h)).trans (det_sw_both m h)
/-- A column that is a unit: the row and the column are left out. -/
theorem det_col_unit {n t : Nat} (m : Nat → Nat → Int) (ht : t < n + 1) : det (n + 1) (setCol m t (unit t)) = det n fun i j => m (sk t i) (sk t j) := by
  rw [← det_cyc t _ ht, det_col_first _ fun i hi => ?_]
  · refine det_congr fun i j _ _ => ?_
    rw [cyc_succ, cyc_succ]
    exact if_neg (sk_ne _ _)
  · rw [cyc_zero]
    unfold setCol unit
    rw [if_pos rfl]
    cases i with
    | zero => rw [cyc_zero, if_pos rfl, if_pos rfl]
    | succ i => rw [cyc_succ, if_neg (sk_ne _ _), if_neg (by omega)]
/-- A column that is a unit of another row: the row may be made a unit, too. -/
theorem det_unit_both {n : Nat} (m : Nat → Nat → Int) {r c : Nat} (hr : r < n) (hc : c < n) : det n (setCol m c (unit r)) = det n (setRow (setCol m c (unit r)) r (unit c)) := by
  have e2 : det n (setCol m c (unit r)) = det n (setRow (setCol m c (unit r)) r fun j => sumN (fun k => setCol m c (unit r) r k * unit k j) n) := by
    refine det_congr fun i j _ hj => ?_
    unfold setRow
    split
    · subst_vars
      dsimp only
      rw [sum_one hj fun k _ hk => by simp [unit, Ne.symm hk]]
      simp [unit]
    · rfl
  rw [e2, det_row_sum _ _ (fun k => unit k) hr, sum_one hc fun k hk hkc => ?_]
  · simp [setCol, unit]
  · have e3 : setRow (setCol m c (unit r)) r (unit k) = setCol (setRow (setCol m c (unit r)) r (unit k)) c fun _ => 0 := by
      funext i j
      simp only [setRow, setCol, unit]
      by_cases a : j = c
      · rw [if_pos a, if_pos a]
        by_cases b : i = r
        · rw [if_pos b, if_neg (by omega)]
        · rw [if_neg b, if_neg b]
      · rw [if_neg a, if_neg a]
    rw [e3, det_col_zero _ hc, Int.mul_zero]

end Go.Dt

/- Determinants by whole steps (Bareiss), plainly; bounds. No program. -/
namespace Go.Dt

/-- The first i rows and columns of A, with row r and column c beside them. -/
def bord (A : Nat → Nat → Int) (i r c : Nat) : Nat → Nat → Int := fun a b => A (if a < i then a else r) (if b < i then b else c)
/-- What the step i leaves at r, c. -/
def bar (A : Nat → Nat → Int) (i r c : Nat) : Int := det (i + 1) (bord A i r c)

theorem bar_zero (A : Nat → Nat → Int) (r c : Nat) : bar A 0 r c = A r c := by
  simp [bar, det, sumN, bord, sgn]
theorem bar_diag (A : Nat → Nat → Int) (i : Nat) : bar A i i i = det (i + 1) A := det_congr fun a b ha hb => by
  unfold bord
  congr 1
  · split <;> omega
  · split <;> omega
theorem bar_tr (A : Nat → Nat → Int) (i r c : Nat) : bar (tr A) i c r = bar A i r c := by
  unfold bar; rw [← det_tr]; rfl
theorem bar_col (A : Nat → Nat → Int) (i r : Nat) : ∃ C : Nat → Int, ∀ c, bar A i r c = det i A * A r c + sumN (fun k => C k * A k c) i := by
  refine ⟨fun k => det (i + 1) (setCol (bord A i r 0) i (unit k)), fun c => ?_⟩
  have e1 : bar A i r c = det (i + 1) (setCol (bord A i r 0) i fun a => sumN (fun k => (bord A i r c k i) * unit k a) (i + 1)) := by
    refine det_congr fun a b ha hb => ?_
    unfold setCol
    by_cases e : b = i
    · rw [if_pos e]
      dsimp only
      rw [sum_one (c := a) ha fun k _ hk => by simp [unit, Ne.symm hk], e]
      simp [unit]
    · rw [if_neg e]
      unfold bord
      rw [if_pos (show b < i by omega), if_pos (show b < i by omega)]
  rw [e1, det_col_sum _ _ (fun a k => unit k a) (by omega), sumN]
  have e2 : det (i + 1) (setCol (bord A i r 0) i fun a => unit i a) = det i A := by
    rw [show (fun a => unit i a) = unit i from rfl, det_col_unit _ (by omega)]
    refine det_congr fun a b ha hb => ?_
    rw [sk_lt ha, sk_lt hb]
    unfold bord
    rw [if_pos ha, if_pos hb]
  rw [e2]
  have e3 : bord A i r c i i = A r c := by unfold bord; simp
  rw [e3, Int.mul_comm, Int.add_comm]
  congr 1
  refine sum_congr fun k hk => ?_
  have : bord A i r c k i = A k c := by unfold bord; rw [if_pos hk]; simp
  rw [this, Int.mul_comm]
theorem bar_row (A : Nat → Nat → Int) (i c : Nat) : ∃ E : Nat → Int, ∀ r, bar A i r c = det i A * A r c + sumN (fun k => E k * A r k) i := by
  obtain ⟨C, h⟩ := bar_col (tr A) i c
  refine ⟨C, fun r => ?_⟩
  have := h r
  rw [bar_tr, det_tr] at this
  exact this
theorem bar_off {A : Nat → Nat → Int} {i r c : Nat} (h : c < i) : bar A i r c = 0 :=
  det_same (c := c) (d := i) _ (by omega) (by omega) (by omega) fun a _ => by unfold bord; rw [if_pos h, if_neg (Nat.lt_irrefl i)]
theorem bar_off' {A : Nat → Nat → Int} {i r c : Nat} (h : r < i) : bar A i r c = 0 := by rw [← bar_tr]; exact bar_off h

theorem sum_cut {f : Nat → Int} {i : Nat} : ∀ {n : Nat}, i ≤ n → sumN (fun k => if k < i then f k else 0) n = sumN f i
  | 0, h => by obtain rfl : i = 0 := by omega
               rfl
  | n + 1, h => by
    by_cases e : i = n + 1
    · subst e; exact sum_congr fun k hk => if_pos hk
    · simp only [sumN]; rw [sum_cut (by omega), if_neg (by omega)]; omega
theorem sum_lead {C v : Nat → Int} {P : Int} {i p n : Nat} (h1 : i ≤ p) (h2 : p < n) : sumN (fun k => (if k < i then C k else if k = p then P else 0) * v k) n = P * v p + sumN (fun k => C k * v k) i := by
  rw [sum_congr (g := fun k => (if k < i then C k * v k else 0) + (if k = p then P * v p else 0)) fun k _ => ?_, sum_add, sum_cut (by omega), sum_one (f := fun k => if k = p then P * v p else 0) h2 fun k _ hk => if_neg hk, if_pos rfl]
  · omega
  · by_cases a : k < i
    · rw [if_pos a, if_pos a, if_neg (by omega)]; omega
    · by_cases b : k = p
      · subst b; rw [if_neg a, if_pos rfl, if_neg a, if_pos rfl]; omega
      · rw [if_neg a, if_neg b, if_neg a, if_neg b]; omega

/-- A determinant whose last two rows are 0 but for the last two columns. -/
theorem det_tail2 {n : Nat} (m : Nat → Nat → Int) (x y z u : Int) : det (n + 2) (setRow (setRow m n fun j => x * unit n j + y * unit (n + 1) j) (n + 1) fun j => z * unit n j + u * unit (n + 1) j) = (x * u - y * z) * det n m := by
  have hx : ∀ f g : Nat → Int, setRow (setRow m n f) (n + 1) g = setRow (setRow m (n + 1) g) n f := fun f g => by
    funext i j; unfold setRow; split
    · rw [if_neg (by omega)]
    · rfl
  rw [det_row _ _ _ _ _ (by omega), hx, hx, det_row _ _ _ _ _ (by omega), det_row _ _ _ _ _ (by omega), ← hx, ← hx, ← hx, ← hx]
  have e0 : ∀ k, det (n + 2) (setRow (setRow m n fun j => unit k j) (n + 1) fun j => unit k j) = 0 := fun k =>
    det_row_same (r := n) (s := n + 1) _ (by omega) (by omega) (by omega) fun j _ => by unfold setRow; rw [if_neg (by omega), if_pos rfl, if_pos rfl]
  have e1 : det (n + 2) (setRow (setRow m n fun j => unit n j) (n + 1) fun j => unit (n + 1) j) = det n m := by
    rw [det_setRow, show (fun j => unit (n + 1) j) = unit (n + 1) from rfl, det_col_unit _ (by omega)]
    have e : det (n + 1) (fun i j => tr (setRow m n fun j => unit n j) (sk (n + 1) i) (sk (n + 1) j)) = det (n + 1) (setCol (tr m) n (unit n)) := det_congr fun i j hi hj => by
      rw [sk_lt hi, sk_lt hj]; rfl
    rw [e, det_col_unit _ (by omega), ← det_tr n m]
    exact det_congr fun i j hi hj => by rw [sk_lt hi, sk_lt hj]
  have e2 : det (n + 2) (setRow (setRow m n fun j => unit (n + 1) j) (n + 1) fun j => unit n j) = - det n m := by
    rw [det_row_exchange _ _ _ (by omega) (by omega) (by omega), e1]
  rw [e0, e0, e1, e2]
  grind

/-- THE STEP. -/
theorem bar_step {A : Nat → Nat → Int} {i : Nat} (r c : Nat) (h0 : det i A ≠ 0) : bar A i r c * bar A i i i - bar A i r i * bar A i i c = det i A * bar A (i + 1) r c := by
  obtain ⟨C, hC⟩ := bar_col A i i
  obtain ⟨C', hC'⟩ := bar_col A i r
  let D := bord A (i + 1) r c
  have hD : ∀ k j, k < i → D k j = A k (if j < i + 1 then j else c) := fun k j hk => by simp only [D, bord]; rw [if_pos (show k < i + 1 by omega)]
  have hDi : ∀ j, D i j = A i (if j < i + 1 then j else c) := fun j => by simp only [D, bord]; rw [if_pos (show i < i + 1 by omega)]
  have hDr : ∀ j, D (i + 1) j = A r (if j < i + 1 then j else c) := fun j => by simp only [D, bord]; rw [if_neg (show ¬ i + 1 < i + 1 by omega)]
  have h1 := det_row_combo (n := i + 2) D (r := i) (fun k => if k < i then C k else if k = i then det i A else 0) (by omega)
  have h2 := det_row_combo (n := i + 2) (setRow D i fun j => sumN (fun k => (if k < i then C k else if k = i then det i A else 0) * D k j) (i + 2)) (r := i + 1) (fun k => if k < i then C' k else if k = i + 1 then det i A else 0) (by omega)
  rw [h1] at h2
  have ev : ∀ j, j < i + 2 → sumN (fun k => (if k < i then C k else if k = i then det i A else 0) * D k j) (i + 2) = bar A i i i * unit i j + bar A i i c * unit (i + 1) j := fun j hj => by
    have e : sumN (fun k => (if k < i then C k else if k = i then det i A else 0) * D k j) (i + 2) = bar A i i (if j < i + 1 then j else c) := by
      rw [hC, sum_lead (Nat.le_refl _) (by omega), hDi, sum_congr (g := fun k => C k * A k (if j < i + 1 then j else c)) fun k hk => by rw [hD k j hk]]
    rw [e]
    by_cases a : j < i
    · rw [if_pos (by omega), bar_off a]; simp [unit, show ¬ j = i by omega, show ¬ j = i + 1 by omega]
    · by_cases b : j = i
      · subst b; rw [if_pos (by omega)]; simp [unit]
      · rw [if_neg (by omega)]; simp [unit, b, show j = i + 1 by omega]
  have ev' : ∀ j, j < i + 2 → sumN (fun k => (if k < i then C' k else if k = i + 1 then det i A else 0) * setRow D i (fun j => sumN (fun k => (if k < i then C k else if k = i then det i A else 0) * D k j) (i + 2)) k j) (i + 2) = bar A i r i * unit i j + bar A i r c * unit (i + 1) j := fun j hj => by
    have e : sumN (fun k => (if k < i then C' k else if k = i + 1 then det i A else 0) * setRow D i (fun j => sumN (fun k => (if k < i then C k else if k = i then det i A else 0) * D k j) (i + 2)) k j) (i + 2) = bar A i r (if j < i + 1 then j else c) := by
      rw [hC', sum_lead (v := fun k => setRow D i (fun j => sumN (fun k => (if k < i then C k else if k = i then det i A else 0) * D k j) (i + 2)) k j) (by omega) (by omega)]
      have a1 : ∀ k, k ≠ i → setRow D i (fun j => sumN (fun k => (if k < i then C k else if k = i then det i A else 0) * D k j) (i + 2)) k j = D k j := fun k hk => if_neg hk
      rw [a1 _ (by omega), hDr, sum_congr (g := fun k => C' k * A k (if j < i + 1 then j else c)) fun k hk => by rw [a1 k (by omega), hD k j hk]]
    rw [e]
    by_cases a : j < i
    · rw [if_pos (by omega), bar_off a]; simp [unit, show ¬ j = i by omega, show ¬ j = i + 1 by omega]
    · by_cases b : j = i
      · subst b; rw [if_pos (by omega)]; simp [unit]
      · rw [if_neg (by omega)]; simp [unit, b, show j = i + 1 by omega]
  have e3 := det_tail2 (n := i) D (bar A i i i) (bar A i i c) (bar A i r i) (bar A i r c)
  have e4 : det i D = det i A := det_congr fun a b ha hb => by
    rw [hD a b ha, if_pos (by omega)]
  rw [e4] at e3
  have e5 : det (i + 2) (setRow (setRow D i fun j => bar A i i i * unit i j + bar A i i c * unit (i + 1) j) (i + 1) fun j => bar A i r i * unit i j + bar A i r c * unit (i + 1) j) = det i A * (det i A * bar A (i + 1) r c) := by
    rw [show det i A * (det i A * bar A (i + 1) r c) = (if i + 1 < i then C' (i + 1) else if i + 1 = i + 1 then det i A else 0) * ((if i < i then C i else if i = i then det i A else 0) * det (i + 2) D) by
      rw [if_neg (by omega), if_pos rfl, if_neg (by omega), if_pos rfl]; rfl, ← h2]
    refine det_congr fun a b ha hb => ?_
    unfold setRow
    by_cases x : a = i + 1
    · rw [if_pos x, if_pos x]; exact (ev' b hb).symm
    · rw [if_neg x, if_neg x]
      by_cases y : a = i
      · rw [if_pos y, if_pos y]; exact (ev b hb).symm
      · rw [if_neg y, if_neg y]
  rw [e5] at e3
  have : det i A * (det i A * bar A (i + 1) r c) = det i A * (bar A i r c * bar A i i i - bar A i r i * bar A i i c) := by rw [e3]; grind
  exact (Int.eq_of_mul_eq_mul_left h0 this).symm

/-- No pivot: the determinant is 0. -/
theorem bar_none {A : Nat → Nat → Int} {n i : Nat} (hi : i < n) (h0 : det i A ≠ 0) (h : ∀ r, i ≤ r → r < n → bar A i r i = 0) : det n A = 0 := by
  obtain ⟨E, hE⟩ := bar_row A i i
  have h1 := det_combo (n := n) A (c := i) (fun k => if k < i then E k else if k = i then det i A else 0) hi
  rw [if_neg (by omega), if_pos rfl] at h1
  have h2 : ∀ r, r < n → sumN (fun k => (if k < i then E k else if k = i then det i A else 0) * A r k) n = 0 := fun r hr => by
    have h3 : bar A i r i = 0 := by
      by_cases a : r < i
      · exact bar_off' a
      · exact h r (by omega) hr
    rw [sum_lead (Nat.le_refl _) hi, ← hE r, h3]
  have h3 : det n (setCol A i fun r => sumN (fun k => (if k < i then E k else if k = i then det i A else 0) * A r k) n) = 0 := by
    rw [det_congr (m' := setCol A i fun _ => 0) fun a b ha _ => by
      unfold setCol
      split
      · exact h2 a ha
      · rfl]
    exact det_col_zero _ hi
  rw [h3] at h1
  rcases Int.mul_eq_zero.1 h1.symm with h | h
  · exact absurd h h0
  · exact h

/-- Rows exchanged below the first i. -/
theorem bar_xch {A : Nat → Nat → Int} {i p q : Nat} (hp : i ≤ p) (hq : i ≤ q) (r c : Nat) (hr : i ≤ r) : bar (fun a b => A (xch p q a) b) i r c = bar A i (xch p q r) c := det_congr fun a b _ _ => by
  unfold bord
  dsimp only
  by_cases h : a < i
  · rw [if_pos h, if_pos h, show xch p q a = a by unfold xch; rw [if_neg (by omega), if_neg (by omega)]]
  · rw [if_neg h, if_neg h]
theorem det_xch_low {A : Nat → Nat → Int} {i p q : Nat} (hp : i ≤ p) (hq : i ≤ q) : det i (fun a b => A (xch p q a) b) = det i A := det_congr fun a b ha _ => by
  rw [show xch p q a = a by unfold xch; rw [if_neg (by omega), if_neg (by omega)]]

/-! ### bounds -/
def sumU (f : Nat → Nat) : Nat → Nat
  | 0 => 0
  | n + 1 => sumU f n + f n
theorem sumU_le {f g : Nat → Nat} : ∀ {n : Nat}, (∀ i, i < n → f i ≤ g i) → sumU f n ≤ sumU g n
  | 0, _ => Nat.le_refl _
  | n + 1, h => Nat.add_le_add (sumU_le fun i hi => h i (by omega)) (h n (by omega))
theorem sumU_congr {f g : Nat → Nat} : ∀ {n : Nat}, (∀ i, i < n → f i = g i) → sumU f n = sumU g n
  | 0, _ => rfl
  | n + 1, h => by unfold sumU; rw [sumU_congr fun i hi => h i (by omega), h n (by omega)]
theorem sumU_add (f g : Nat → Nat) : ∀ n, sumU (fun i => f i + g i) n = sumU f n + sumU g n
  | 0 => rfl
  | n + 1 => by simp only [sumU]; rw [sumU_add f g n]; omega
theorem sumU_mul (c : Nat) (f : Nat → Nat) : ∀ n, sumU (fun i => f i * c) n = sumU f n * c
  | 0 => by simp [sumU]
  | n + 1 => by simp only [sumU]; rw [sumU_mul c f n, Nat.add_mul]
theorem sumU_const (c : Nat) : ∀ n, sumU (fun _ => c) n = n * c
  | 0 => by simp [sumU]
  | n + 1 => by simp only [sumU]; rw [sumU_const c n, Nat.succ_mul]
theorem sumU_sk (f : Nat → Nat) (j : Nat) : ∀ n, j ≤ n → sumU (fun b => f (sk j b)) n + f j = sumU f (n + 1)
  | 0, h => by obtain rfl : j = 0 := by omega
               rfl
  | n + 1, h => by
    by_cases e : j = n + 1
    · subst e
      show sumU (fun b => f (sk (n + 1) b)) (n + 1) + f (n + 1) = sumU f (n + 1) + f (n + 1)
      rw [sumU_congr (g := f) fun i hi => by rw [sk_lt hi]]
    · have := sumU_sk f j n (by omega)
      show sumU (fun b => f (sk j b)) n + f (sk j n) + f j = sumU f (n + 1) + f (n + 1)
      rw [sk_ge (by omega)]; omega
theorem natAbs_sum (f : Nat → Int) : ∀ n, (sumN f n).natAbs ≤ sumU (fun i => (f i).natAbs) n
  | 0 => Nat.le_refl _
  | n + 1 => by
    have := natAbs_sum f n
    simp only [sumN, sumU]
    omega
def prodU (f : Nat → Nat) : Nat → Nat
  | 0 => 1
  | n + 1 => prodU f n * f n
theorem prodU_head (f : Nat → Nat) : ∀ n, prodU f (n + 1) = f 0 * prodU (fun i => f (i + 1)) n
  | 0 => by simp [prodU]
  | n + 1 => by
    show prodU f (n + 1) * f (n + 1) = f 0 * (prodU (fun i => f (i + 1)) n * f (n + 1))
    rw [prodU_head f n, Nat.mul_assoc]
theorem det_abs : ∀ (n : Nat) (m : Nat → Nat → Int) (B : Nat → Nat), (∀ i, i < n → sumU (fun j => (m i j).natAbs) n ≤ B i) → (det n m).natAbs ≤ prodU B n
  | 0, _, _, _ => Nat.le_refl _
  | n + 1, m, B, h => by
    unfold det
    refine Nat.le_trans (natAbs_sum _ _) ?_
    rw [prodU_head]
    refine Nat.le_trans (sumU_le (g := fun j => (m 0 j).natAbs * prodU (fun i => B (i + 1)) n) fun j hj => ?_) ?_
    · rw [Int.natAbs_mul, Int.natAbs_mul, sgn_abs, Nat.one_mul]
      refine Nat.mul_le_mul_left _ (det_abs n _ _ fun i hi => ?_)
      refine Nat.le_trans ?_ (h (i + 1) (by omega))
      have := sumU_sk (fun b => (m (i + 1) b).natAbs) j n (by omega)
      omega
    · rw [sumU_mul]
      exact Nat.mul_le_mul_right _ (h 0 (by omega))
theorem prodU_sq {B q : Nat → Nat} : ∀ {n : Nat}, (∀ i, i < n → B i * B i ≤ 2 ^ q i) → prodU B n * prodU B n ≤ 2 ^ sumU q n
  | 0, _ => Nat.le_refl _
  | n + 1, h => by
    have h1 := prodU_sq fun i (hi : i < n) => h i (by omega)
    have h2 := Nat.mul_le_mul h1 (h n (by omega))
    rw [← Nat.pow_add] at h2
    simp only [prodU, sumU]
    refine Nat.le_trans (Nat.le_of_eq ?_) h2
    grind
/-- Row r of the matrix has at most the square root of 2 ^ q r in it. -/
def Rowed (n : Nat) (A : Nat → Nat → Int) (q : Nat → Nat) : Prop := ∀ i, i < n → sumU (fun j => (A i j).natAbs) n * sumU (fun j => (A i j).natAbs) n ≤ 2 ^ q i
theorem sumU_bord (f : Nat → Nat) {i c n : Nat} (h1 : i ≤ c) (h2 : c < n) : sumU (fun b => f (if b < i then b else c)) (i + 1) ≤ sumU f n := by
  have e : ∀ k, sumU f i + f (i + k) ≤ sumU f (i + k + 1) := fun k => by
    induction k with
    | zero => exact Nat.le_refl _
    | succ k ih =>
      show _ ≤ sumU f (i + k + 1) + f (i + (k + 1))
      omega
  have mono : ∀ k, sumU f (c + 1) ≤ sumU f (c + 1 + k) := fun k => by
    induction k with
    | zero => exact Nat.le_refl _
    | succ k ih =>
      show _ ≤ sumU f (c + 1 + k) + _
      omega
  have h3 := e (c - i)
  have h4 := mono (n - c - 1)
  rw [show i + (c - i) = c by omega] at h3
  rw [show c + 1 + (n - c - 1) = n by omega] at h4
  simp only [sumU]
  rw [if_neg (by omega), sumU_congr (g := f) fun b hb => by rw [if_pos hb]]
  omega
theorem bar_sq {n : Nat} {A : Nat → Nat → Int} {q : Nat → Nat} (h : Rowed n A q) {i r c : Nat} (h1 : i ≤ r) (h2 : r < n) (h3 : i ≤ c) (h4 : c < n) : (bar A i r c).natAbs * (bar A i r c).natAbs ≤ 2 ^ sumU q n := by
  have e1 := det_abs (i + 1) (bord A i r c) (fun a => sumU (fun j => (A (if a < i then a else r) j).natAbs) n) fun a ha => sumU_bord (fun b => (A (if a < i then a else r) b).natAbs) h3 h4
  have e2 := prodU_sq (n := i + 1) (B := fun a => sumU (fun j => (A (if a < i then a else r) j).natAbs) n) (q := fun a => q (if a < i then a else r)) fun a ha => h _ (by split <;> omega)
  refine Nat.le_trans (Nat.mul_le_mul e1 e1) (Nat.le_trans e2 (Nat.pow_le_pow_right (by omega) (sumU_bord q h1 h2)))
theorem le_of_sq {x m : Nat} (h : x * x ≤ 2 ^ (2 * m)) : x ≤ 2 ^ m := by
  refine Nat.le_of_not_lt fun hx => ?_
  have h1 : 2 ^ m * 2 ^ m < x * x := Nat.mul_lt_mul_of_lt_of_lt hx hx
  rw [← Nat.pow_add, ← Nat.two_mul] at h1
  omega
theorem bar_abs {n : Nat} {A : Nat → Nat → Int} {q : Nat → Nat} (h : Rowed n A q) (hq : sumU q n ≤ 60) {i r c : Nat} (h1 : i ≤ r) (h2 : r < n) (h3 : i ≤ c) (h4 : c < n) : (bar A i r c).natAbs ≤ 2 ^ 30 :=
  le_of_sq (Nat.le_trans (bar_sq h h1 h2 h3 h4) (Nat.pow_le_pow_right (by omega) hq))
theorem sumU_xch {q : Nat → Nat} {p r : Nat} : ∀ {n : Nat}, p < n → r < n → sumU (fun i => q (xch p r i)) n = sumU q n := by
  have single : ∀ (n : Nat) (v : Nat → Nat) (a : Nat) (x : Nat), a < n → sumU (fun i => if i = a then x else v i) n + v a = sumU v n + x := fun n v a x => by
    induction n with
    | zero => intro h; omega
    | succ n ih =>
      intro h
      simp only [sumU]
      by_cases e : a = n
      · subst e
        rw [if_pos rfl, sumU_congr (g := v) fun i hi => if_neg (by omega)]; omega
      · rw [if_neg (fun h => e h.symm)]; have := ih (by omega); omega
  intro n hp hr
  have e : (fun i => q (xch p r i)) = fun i => if i = p then q r else if i = r then q p else q i := by
    funext i; unfold xch; split
    · rfl
    · split <;> rfl
  rw [e]
  have h1 := single n (fun i => if i = r then q p else q i) p (q r) hp
  have h2 := single n q r (q p) hr
  by_cases x : p = r
  · subst x; simp only [if_pos] at h1; omega
  · rw [if_neg x] at h1; omega
theorem Rowed.xch {n : Nat} {A : Nat → Nat → Int} {q : Nat → Nat} (h : Rowed n A q) {p r : Nat} (hp : p < n) (hr : r < n) : Rowed n (fun a b => A (xch p r a) b) fun a => q (xch p r a) := fun i hi => h _ (by unfold Dt.xch; split <;> (try split) <;> omega)

end Go.Dt

/- Contracts: the numbers' operations, IndexFunc at rows, the determinant of the program. -/
namespace Go.Proofs.YtkdcldbedbagjaaDoor
open Go.Lf Go.RowKit Go.Dt

theorem r_quoX {w : World} {K : Value → Prop} {t : TypeId} {lit : Bool} (x y z : Int) (hy : y ≠ 0) (e : x = y * z) (h0 : -9223372036854775808 ≤ z) (h1 : z ≤ 9223372036854775807) : binQ Tryd.prog w .quo t lit (.int .i64 x) (.int .i64 y) K = K (.int .i64 z) := by
  rw [r_bin (v := .int .i64 (IntKind.i64.wrap (x.tdiv y))) (by simp [intBin, hy]), e, Int.mul_tdiv_cancel_left _ hy, IntWalk.i64_in _ (by omega)]

abbrev fnV (n : Nat) : Value := .func (.func n) #[] #[]
/-- What the package's variable holds: how numbers are computed with. -/
abbrev kV : Value := .agg #[fnV 122, fnV 123, fnV 124]
abbrev ptrV (b : Nat) : Value := .pointer (some ⟨b, 0, none⟩)

theorem sub_calls {x y : Int} (w : World) (h0 : -9223372036854775808 ≤ x - y) (h1 : x - y ≤ 9223372036854775807) : Calls Tryd.prog 122 #[.int .i64 x, .int .i64 y] w fun e w' => e = .returned (.int .i64 (x - y)) ∧ w = w' := by
  refine lift122 ?_
  unfold S122
  rw [r_sub _ _ h0 h1]
  exact ⟨rfl, rfl⟩
theorem mul_calls {x y : Int} (w : World) (h0 : -9223372036854775808 ≤ x * y) (h1 : x * y ≤ 9223372036854775807) : Calls Tryd.prog 123 #[.int .i64 x, .int .i64 y] w fun e w' => e = .returned (.int .i64 (x * y)) ∧ w = w' := by
  refine lift123 ?_
  unfold S123
  rw [r_mul _ _ h0 h1]
  exact ⟨rfl, rfl⟩
theorem quo_calls {x y z : Int} (w : World) (hy : y ≠ 0) (e : x = y * z) (h0 : -9223372036854775808 ≤ z) (h1 : z ≤ 9223372036854775807) : Calls Tryd.prog 124 #[.int .i64 x, .int .i64 y] w fun e w' => e = .returned (.int .i64 z) ∧ w = w' := by
  refine lift124 ?_
  unfold S124
  rw [r_quoX x y z hy e h0 h1]
  exact ⟨rfl, rfl⟩

theorem nonzero_calls {u : Value} {l : List Int} {b i : Nat} (w : World) (hr : RdInts w u l) (hi : i < l.length) (hc : w.cell? ⟨b, 0, none⟩ = some (.int .i64 i)) : Calls Tryd.prog 85 #[u, ptrV b] w fun e w' => e = .returned (.bool (!decide (l.getD i 0 = 0))) ∧ w = w' := by
  refine lift85 ?_
  unfold S85
  rw [r_ld hc, ints_ldK hr hi, r_neq]
  exact ⟨rfl, rfl⟩

theorem RdRows.ldK {w : World} {v : Value} {R : List (List Int)} (h : RdRows w v R) {i : Nat} (hi : i < R.length) : ∃ u, RdInts w u (R.getD i []) ∧ ∀ K : Value → Prop, (iaS 1 v (.int .i64 i) fun p => ld1 w p K) = K u := by
  obtain ⟨b, off, cap, u, e, hc, hr⟩ := h.row hi
  have hii : (i : Int).toNat = i := by omega
  exact ⟨u, hr, fun K => by rw [e, r_iaS _ _ _ _ _ _ _ (by omega) (by omega), hii, Nat.mul_one, r_ld hc]⟩

set_option maxRecDepth 100000 in
/-- slices.IndexFunc: the first row whose number i is not 0. -/
theorem pivot_calls {v : Value} {L : List (List Int)} {b i : Nat} (w : World) (hr : RdRows w v L) (hl : L.length ≤ 1000) (hi : ∀ j, j < L.length → i < (L.getD j []).length) (hc : w.cell? ⟨b, 0, none⟩ = some (.int .i64 i)) :
    Calls Tryd.prog 84 #[v, .func (.func 85) #[] #[ptrV b]] w fun e w' => w = w' ∧ ∃ p : Int, e = .returned (.int .i64 p) ∧ ((p = -1 ∧ ∀ j, j < L.length → hat L j i = 0) ∨ (0 ≤ p ∧ p < L.length ∧ hat L p.toNat i ≠ 0)) := by
  obtain ⟨a, cap, ev, _⟩ := hr.len
  have lnv : ∀ K : Value → Prop, ln1 v K = K (.int .i64 L.length) := fun K => by rw [ev]; rfl
  refine lift84 ?_
  unfold S84 S84L0
  rw [lnv]
  refine ⟨fun t8 wr => ∃ j : Nat, j ≤ L.length ∧ t8 = .int .i64 j ∧ (∀ q, q < j → hat L q i = 0) ∧ w = wr, fun t8 _ => L.length - (intOf t8).toNat, ⟨0, by omega, rfl, by simp, rfl⟩, ?_⟩
  rintro _ _ _ ⟨j, hj, rfl, hz, rfl⟩
  by_cases hlt : j < L.length
  case neg =>
    have hlt' : ¬ (j : Int) < (L.length : Int) := by omega
    simp only [r_lss, hlt', decide_false, r_condF]
    exact ⟨by first | rfl | trivial, _, rfl, .inl ⟨rfl, fun q hq => hz q (by omega)⟩⟩
  have hlt' : (j : Int) < (L.length : Int) := by omega
  obtain ⟨u, hu, ldu⟩ := hr.ldK hlt
  simp only [r_lss, decide_eq_true hlt', r_condT]
  rw [ldu]
  refine r_use fok85 (nonzero_calls w hu (hi j hlt) hc) rfl ?_
  rintro _ _ ⟨rfl, rfl⟩
  refine ⟨_, rfl, ?_⟩
  by_cases h0 : hat L j i = 0
  · have h0' : (L.getD j []).getD i 0 = 0 := h0
    simp only [h0', decide_true, Bool.not_true, r_condF]
    rw [r_add _ _ (by omega) (by omega)]
    refine ⟨⟨j + 1, by omega, by go_num, fun q hq => ?_, by first | rfl | trivial⟩, by simp only [intOf]; omega⟩
    by_cases e : q = j
    · rw [e]; exact h0
    · exact hz q (by omega)
  · have h0' : ¬ (L.getD j []).getD i 0 = 0 := h0
    simp only [h0', decide_false, Bool.not_false, r_condT]
    exact ⟨by first | rfl | trivial, _, rfl, .inr ⟨by omega, by omega, by simpa using h0⟩⟩

theorem RdRows.from {w : World} {a : Option Addr} {c : Nat} {R : List (List Int)} (h : RdRows w (.slice a R.length c) R) (hc : R.length ≤ c) {i : Nat} (hi : i ≤ R.length) :
    RdRows w (.slice (if c = i then a else a.map fun x => x.add (i * 1)) (R.length - i) (c - i)) (R.drop i) := by
  obtain ⟨a', cap', vs, e, hl, hh, hrows⟩ := h
  cases e
  refine ⟨_, _, fun j => vs (i + j), by rw [List.length_drop], by rw [List.length_drop]; omega, fun h0 => ?_, fun j hj => ?_⟩
  · rw [List.length_drop] at h0
    obtain ⟨b, off, rfl, hc'⟩ := hh (by omega)
    refine ⟨b, off + i, ?_, fun j hj => ?_⟩
    · rw [if_neg (by omega), Option.map_some, r_addr, Nat.mul_one]
    · rw [List.length_drop] at hj
      have := hc' (i + j) (by omega)
      rw [← Nat.add_assoc] at this
      exact this
  · rw [List.length_drop] at hj
    have := hrows (i + j) (by omega)
    rw [List.getD_eq_getElem?_getD, List.getElem?_drop, ← List.getD_eq_getElem?_getD]
    exact this

theorem IMatV.rdr {base : Nat} {w : World} {v : Value} {vs : List Value} {R : List (List Int)} (h : IMatV base w v vs R) (hR : R.length ≤ 1000) (hr : ∀ i, i < R.length → (R.getD i []).length ≤ 1000) : RdRows w v R :=
  IRows.rd (IMat.rows ⟨vs, h⟩) (by omega) fun r hm => by
    obtain ⟨i, hi, rfl⟩ := List.getElem_of_mem hm
    have := hr i hi
    rw [getD_lt _ _ _ hi] at this
    omega

theorem hat_drop (R : List (List Int)) (i j k : Nat) : hat (R.drop i) j k = hat R (i + j) k := by
  have e : (R.drop i).getD j [] = R.getD (i + j) [] := by rw [List.getD_eq_getElem?_getD, List.getElem?_drop, ← List.getD_eq_getElem?_getD]
  unfold hat
  rw [e]

section
variable {n : Nat} {base : Nat}

/-- What a determinant's step i has, up to row r and column c of the step. -/
structure DSt (n base : Nat) (A : Nat → Nat → Int) (q : Nat → Nat) (i r c : Nat) (v : Value) (vs : List Value) (R : List (List Int)) (w : World) : Prop where
  mat : IMatV base w v vs R
  siz : Sized n n R
  row : Rowed n A q
  sum : sumU q n ≤ 60
  nz : det i A ≠ 0
  at' : ∀ a b, i ≤ a → a < n → i ≤ b → b < n → hat R a b = if i < a ∧ i < b ∧ (a < r ∨ (a = r ∧ b < c)) then bar A (i + 1) a b else bar A i a b

theorem DSt.kp {A : Nat → Nat → Int} {q : Nat → Nat} {i r c : Nat} {v : Value} {vs : List Value} {R : List (List Int)} {w w' : World} (h : DSt n base A q i r c v vs R w) (k : Kp w w') : DSt n base A q i r c v vs R w' :=
  ⟨h.mat.kp k, h.siz, h.row, h.sum, h.nz, h.at'⟩

theorem small30 {x : Int} (h : x.natAbs ≤ 2 ^ 30) : -1073741824 ≤ x ∧ x ≤ 1073741824 := by
  have : (2 : Nat) ^ 30 = 1073741824 := rfl
  omega
theorem prod30 {x y : Int} (hx : x.natAbs ≤ 2 ^ 30) (hy : y.natAbs ≤ 2 ^ 30) : -1152921504606846976 ≤ x * y ∧ x * y ≤ 1152921504606846976 := by
  have h : (x * y).natAbs ≤ 2 ^ 30 * 2 ^ 30 := by rw [Int.natAbs_mul]; exact Nat.mul_le_mul hx hy
  have : (2 : Nat) ^ 30 * 2 ^ 30 = 1152921504606846976 := rfl
  omega

set_option maxRecDepth 100000 in
set_option maxHeartbeats 1000000 in
/-- The innermost loop: row r. -/
theorem r70_2 {A : Nat → Nat → Int} {q : Nat → Nat} {i r b2 b7 top : Nat} {v : Value} {vs : List Value} {R : List (List Int)} {w0 : World} {next : Value → World → Prop} (hn : n ≤ 1000) (hi : i < n) (hr : i < r) (hrn : r < n)
    (hst : DSt n base A q i r (i + 1) v vs R w0) (htop : TopV top v vs) (h2 : w0.heap[b2]? = some (.cells #[fnV 122, fnV 123, fnV 124] 100 (0, 0))) (h7 : w0.heap[b7]? = some (.cells #[.int .i64 i] 3 (0, 0)))
    (t2 : top ≤ b2) (t7 : top ≤ b7) (hb : base ≤ w0.heap.size)
    (hnext : ∀ w' R', DSt n base A q i (r + 1) (i + 1) v vs R' w' → Below base w0 w' → w'.heap[b2]? = some (.cells #[fnV 122, fnV 123, fnV 124] 100 (0, 0)) → w'.heap[b7]? = some (.cells #[.int .i64 i] 3 (0, 0)) → next (.int .i64 ((r : Int) + 1)) w') :
    S70L2 v (ptrV b2) (.int .i64 (det i A)) (ptrV b7) (.int .i64 r) (.int .i64 ((i + 1 : Nat) : Int)) next w0 := by
  obtain ⟨va, vc, ev, _⟩ := IMat.len ⟨vs, hst.mat⟩
  have hRl : R.length = n := hst.siz.1
  have lnv : ∀ K : Value → Prop, ln1 v K = K (.int .i64 n) := fun K => by rw [ev, hRl]; rfl
  unfold S70L2
  refine ⟨fun t wr => ∃ (c : Nat) (R' : List (List Int)), i < c ∧ c ≤ n ∧ t = .int .i64 c ∧ DSt n base A q i r c v vs R' wr ∧ Below base w0 wr ∧ wr.heap[b2]? = some (.cells #[fnV 122, fnV 123, fnV 124] 100 (0, 0)) ∧ wr.heap[b7]? = some (.cells #[.int .i64 i] 3 (0, 0)), fun t _ => n - (intOf t).toNat,
    ⟨i + 1, R, by omega, by omega, rfl, hst, Below.refl _ _, h2, h7⟩, ?_⟩
  rintro _ _ wr ⟨c, R', hic, hcn, rfl, hs, kr, g2, g7⟩
  rw [lnv]
  by_cases hlt : c < n
  case neg =>
    have hlt' : ¬ (c : Int) < (n : Int) := by omega
    simp only [r_lss, hlt', decide_false, r_condF]
    rw [r_add _ _ (by omega) (by omega)]
    refine hnext wr R' ⟨hs.mat, hs.siz, hs.row, hs.sum, hs.nz, fun a b h1 h2 h3 h4 => ?_⟩ kr g2 g7
    rw [hs.at' a b h1 h2 h3 h4]
    by_cases e : i < a ∧ i < b ∧ (a < r ∨ (a = r ∧ b < c))
    · rw [if_pos e, if_pos (by omega)]
    · rw [if_neg e, if_neg (by omega)]
  have hlt' : (c : Int) < (n : Int) := by omega
  simp only [r_lss, decide_eq_true hlt', r_condT]
  refine r_drew fun w1 k1 he1 => ?_
  have hs1 := hs.kp k1
  have g21 := block_below g2 k1
  have g71 := block_below g7 k1
  have hR'l : R'.length = n := hs1.siz.1
  have hrow : ∀ a, a < n → (R'.getD a []).length = n := hs1.siz.2
  obtain ⟨ur, _, Ir, ldr⟩ := hs1.mat.ldK (i := r) (by omega)
  obtain ⟨ui, _, Ii, ldi⟩ := hs1.mat.ldK (i := i) (by omega)
  have c7 : w1.cell? ⟨b7, 0, none⟩ = some (.int .i64 i) := by rw [cell_row g71]; rfl
  have f0 : w1.cell? ⟨b2, 0, none⟩ = some (fnV 122) := by rw [cell_row g21]; rfl
  have f1 : w1.cell? ⟨b2, 0 + 1, none⟩ = some (fnV 123) := by rw [cell_row g21]; rfl
  have f2 : w1.cell? ⟨b2, 0 + 2, none⟩ = some (fnV 124) := by rw [cell_row g21]; rfl
  have e1 : (R'.getD r []).getD c 0 = bar A i r c := by
    have := hs1.at' r c (by omega) hrn (by omega) hlt
    rw [if_neg (by omega)] at this
    exact this
  have e2 : (R'.getD i []).getD i 0 = bar A i i i := by
    have := hs1.at' i i (by omega) hi (by omega) hi
    rw [if_neg (by omega)] at this
    exact this
  have e3 : (R'.getD r []).getD i 0 = bar A i r i := by
    have := hs1.at' r i (by omega) hrn (by omega) hi
    rw [if_neg (by omega)] at this
    exact this
  have e4 : (R'.getD i []).getD c 0 = bar A i i c := by
    have := hs1.at' i c (by omega) hi (by omega) hlt
    rw [if_neg (by omega)] at this
    exact this
  have B : ∀ a b, i ≤ a → a < n → i ≤ b → b < n → (bar A i a b).natAbs ≤ 2 ^ 30 := fun a b h1 h2 h3 h4 => bar_abs hs.row hs.sum h1 h2 h3 h4
  have p1 := prod30 (B r c (by omega) hrn (by omega) hlt) (B i i (by omega) hi (by omega) hi)
  have p2 := prod30 (B r i (by omega) hrn (by omega) hi) (B i c (by omega) hi (by omega) hlt)
  have p3 := small30 (bar_abs hs.row hs.sum (i := i + 1) (r := r) (c := c) (by omega) hrn (by omega) hlt)
  rw [ldr, r_fa, r_ld f2, r_fa, r_ld f0, r_fa, r_ld f1, ldr, own_ldK Ir (by rw [hrow r hrn]; exact hlt), r_ld c7, ldi, r_ld c7, own_ldK Ii (by rw [hrow i hi]; exact hi), r_fa, r_ld f1, ldr, r_ld c7, own_ldK Ir (by rw [hrow r hrn]; exact hi), r_ld c7, ldi, own_ldK Ii (by rw [hrow i hi]; exact hlt)]
  rw [e1, e2, e3, e4]
  refine r_use fok123 (mul_calls w1 (by omega) (by omega)) rfl ?_
  rintro _ _ ⟨rfl, rfl⟩
  refine ⟨_, rfl, r_keep (Below.refl _ _) ?_⟩
  refine r_use fok123 (mul_calls w1 (by omega) (by omega)) rfl ?_
  rintro _ _ ⟨rfl, rfl⟩
  refine ⟨_, rfl, r_keep (Below.refl _ _) ?_⟩
  refine r_use fok122 (sub_calls w1 (by omega) (by omega)) rfl ?_
  rintro _ _ ⟨rfl, rfl⟩
  refine ⟨_, rfl, r_keep (Below.refl _ _) ?_⟩
  refine r_use fok124 (quo_calls (z := bar A (i + 1) r c) w1 hs.nz (bar_step r c hs.nz) (by omega) (by omega)) rfl ?_
  rintro _ _ ⟨rfl, rfl⟩
  refine ⟨_, rfl, r_keep (Below.refl _ _) ?_⟩
  obtain ⟨g, cap, d, cc, ev', hcell, hbg, hbd, dcell, dfr, ⟨u', hu', hd'⟩, hput⟩ := hs1.mat.put (i := r) (j := c) (by omega) (by rw [hrow r hrn]; exact hlt)
  obtain ⟨d0, c0, eur, _⟩ := Ir.put (q := c) (by rw [hrow r hrn]; exact hlt) 0
  have hur : ur = .slice (some ⟨d, 0, none⟩) (R'.getD r []).length cc := by
    have h9 := ldr fun x => x = ur
    have hrr : (r : Int).toNat = r := by omega
    rw [ev', r_iaS _ _ _ _ _ _ _ (by omega) (by omega), hrr, Nat.mul_one, Nat.zero_add, r_ld hcell] at h9
    exact (h9.mpr rfl).symm
  have hcc : (c : Int).toNat = c := by omega
  rw [hur, r_iaS _ _ _ _ _ _ _ (by omega) (by rw [hrow r hrn]; omega), hcc, Nat.mul_one, Nat.zero_add, st3 dcell dfr]
  have hdt : d < top := htop.2 r u' hu' d hd'
  have hch : Chg (fun k => k = d) w1 (w1.setCell ⟨d, c, none⟩ (.int .i64 (bar A (i + 1) r c))) := Chg.setCell _ _ rfl
  rw [r_add _ _ (by omega) (by omega)]
  refine ⟨⟨c + 1, _, by omega, by omega, by go_num, ⟨hput (bar A (i + 1) r c), put2_sized hs1.siz hrn _, hs.row, hs.sum, hs.nz, fun a b h1 h2 h3 h4 => ?_⟩, ?_, ?_, ?_⟩, by simp only [intOf]; omega⟩
  · rw [put2_hat _ _ _ _ _ _ (by omega) (by rw [hrow r hrn]; exact hlt)]
    by_cases e : a = r ∧ b = c
    · rw [if_pos e, if_pos (by omega), e.1, e.2]
    · rw [if_neg e, hs1.at' a b h1 h2 h3 h4]
      by_cases e' : i < a ∧ i < b ∧ (a < r ∨ (a = r ∧ b < c))
      · rw [if_pos e', if_pos (by omega)]
      · rw [if_neg e', if_neg (by omega)]
  · have hsz := kr.size
    have hs1' := k1.size
    exact kr.trans ((Below.mono k1 (by omega)).trans (hch.below (by omega) fun k e => by omega))
  · exact hch.at g21 (by omega)
  · exact hch.at g71 (by omega)

end
end Go.Proofs.YtkdcldbedbagjaaDoor
