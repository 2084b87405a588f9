/- Determinants by whole steps (Bareiss), plainly; bounds. No program. -/
import Derived.Test.YtkdcldbedbagjaaDoorDa
set_option linter.all false
namespace Go.Dt

/-- The first i rows and columns of A, with row r and column c beside them. -/
def bord (A : Nat → Nat → Int) (i r c : Nat) : Nat → Nat → Int := fun a b => A (if a < i then a else r) (if b < i then b else c)
/-- What the step i leaves at r, c. -/
def bar (A : Nat → Nat → Int) (i r c : Nat) : Int := det (i + 1) (bord A i r c)

theorem bar_zero (A : Nat → Nat → Int) (r c : Nat) : bar A 0 r c = A r c := by
  simp [bar, det, sumN, bord, sgn]
theorem bar_diag (A : Nat → Nat → Int) (i : Nat) : bar A i i i = det (i + 1) A := det_congr fun a b ha hb => by
  unfold bord
  congr 1
  · split <;> omega
  · split <;> omega
theorem bar_tr (A : Nat → Nat → Int) (i r c : Nat) : bar (tr A) i c r = bar A i r c := by
  unfold bar; rw [← det_tr]; rfl
theorem bar_col (A : Nat → Nat → Int) (i r : Nat) : ∃ C : Nat → Int, ∀ c, bar A i r c = det i A * A r c + sumN (fun k => C k * A k c) i := by
  refine ⟨fun k => det (i + 1) (setCol (bord A i r 0) i (unit k)), fun c => ?_⟩
  have e1 : bar A i r c = det (i + 1) (setCol (bord A i r 0) i fun a => sumN (fun k => (bord A i r c k i) * unit k a) (i + 1)) := by
    refine det_congr fun a b ha hb => ?_
    unfold setCol
    by_cases e : b = i
    · rw [if_pos e]
      dsimp only
      rw [sum_one (c := a) ha fun k _ hk => by simp [unit, Ne.symm hk], e]
      simp [unit]
    · rw [if_neg e]
      unfold bord
      rw [if_pos (show b < i by omega), if_pos (show b < i by omega)]
  rw [e1, det_col_sum _ _ (fun a k => unit k a) (by omega), sumN]
  have e2 : det (i + 1) (setCol (bord A i r 0) i fun a => unit i a) = det i A := by
    rw [show (fun a => unit i a) = unit i from rfl, det_col_unit _ (by omega)]
    refine det_congr fun a b ha hb => ?_
    rw [sk_lt ha, sk_lt hb]
    unfold bord
    rw [if_pos ha, if_pos hb]
  rw [e2]
  have e3 : bord A i r c i i = A r c := by unfold bord; simp
  rw [e3, Int.mul_comm, Int.add_comm]
  congr 1
  refine sum_congr fun k hk => ?_
  have : bord A i r c k i = A k c := by unfold bord; rw [if_pos hk]; simp
  rw [this, Int.mul_comm]
theorem bar_row (A : Nat → Nat → Int) (i c : Nat) : ∃ E : Nat → Int, ∀ r, bar A i r c = det i A * A r c + sumN (fun k => E k * A r k) i := by
  obtain ⟨C, h⟩ := bar_col (tr A) i c
  refine ⟨C, fun r => ?_⟩
  have := h r
  rw [bar_tr, det_tr] at this
  exact this
theorem bar_off {A : Nat → Nat → Int} {i r c : Nat} (h : c < i) : bar A i r c = 0 :=
  det_same (c := c) (d := i) _ (by omega) (by omega) (by omega) fun a _ => by unfold bord; rw [if_pos h, if_neg (Nat.lt_irrefl i)]
theorem bar_off' {A : Nat → Nat → Int} {i r c : Nat} (h : r < i) : bar A i r c = 0 := by rw [← bar_tr]; exact bar_off h

theorem sum_cut {f : Nat → Int} {i : Nat} : ∀ {n : Nat}, i ≤ n → sumN (fun k => if k < i then f k else 0) n = sumN f i
  | 0, h => by obtain rfl : i = 0 := by omega
               rfl
  | n + 1, h => by
    by_cases e : i = n + 1
    · subst e; exact sum_congr fun k hk => if_pos hk
    · simp only [sumN]; rw [sum_cut (by omega), if_neg (by omega)]; omega
theorem sum_lead {C v : Nat → Int} {P : Int} {i p n : Nat} (h1 : i ≤ p) (h2 : p < n) : sumN (fun k => (if k < i then C k else if k = p then P else 0) * v k) n = P * v p + sumN (fun k => C k * v k) i := by
  rw [sum_congr (g := fun k => (if k < i then C k * v k else 0) + (if k = p then P * v p else 0)) fun k _ => ?_, sum_add, sum_cut (by omega), sum_one (f := fun k => if k = p then P * v p else 0) h2 fun k _ hk => if_neg hk, if_pos rfl]
  · omega
  · by_cases a : k < i
    · rw [if_pos a, if_pos a, if_neg (by omega)]; omega
    · by_cases b : k = p
      · subst b; rw [if_neg a, if_pos rfl, if_neg a, if_pos rfl]; omega
      · rw [if_neg a, if_neg b, if_neg a, if_neg b]; omega

/-- A determinant whose last two rows are 0 but for the last two columns. -/
theorem det_tail2 {n : Nat} (m : Nat → Nat → Int) (x y z u : Int) : det (n + 2) (setRow (setRow m n fun j => x * unit n j + y * unit (n + 1) j) (n + 1) fun j => z * unit n j + u * unit (n + 1) j) = (x * u - y * z) * det n m := by
  have hx : ∀ f g : Nat → Int, setRow (setRow m n f) (n + 1) g = setRow (setRow m (n + 1) g) n f := fun f g => by
    funext i j; unfold setRow; split
    · rw [if_neg (by omega)]
    · rfl
  rw [det_row _ _ _ _ _ (by omega), hx, hx, det_row _ _ _ _ _ (by omega), det_row _ _ _ _ _ (by omega), ← hx, ← hx, ← hx, ← hx]
  have e0 : ∀ k, det (n + 2) (setRow (setRow m n fun j => unit k j) (n + 1) fun j => unit k j) = 0 := fun k =>
    det_row_same (r := n) (s := n + 1) _ (by omega) (by omega) (by omega) fun j _ => by unfold setRow; rw [if_neg (by omega), if_pos rfl, if_pos rfl]
  have e1 : det (n + 2) (setRow (setRow m n fun j => unit n j) (n + 1) fun j => unit (n + 1) j) = det n m := by
    rw [det_setRow, show (fun j => unit (n + 1) j) = unit (n + 1) from rfl, det_col_unit _ (by omega)]
    have e : det (n + 1) (fun i j => tr (setRow m n fun j => unit n j) (sk (n + 1) i) (sk (n + 1) j)) = det (n + 1) (setCol (tr m) n (unit n)) := det_congr fun i j hi hj => by
      rw [sk_lt hi, sk_lt hj]; rfl
    rw [e, det_col_unit _ (by omega), ← det_tr n m]
    exact det_congr fun i j hi hj => by rw [sk_lt hi, sk_lt hj]
  have e2 : det (n + 2) (setRow (setRow m n fun j => unit (n + 1) j) (n + 1) fun j => unit n j) = - det n m := by
    rw [det_row_exchange _ _ _ (by omega) (by omega) (by omega), e1]
  rw [e0, e0, e1, e2]
  grind

/-- THE STEP. -/
theorem bar_step {A : Nat → Nat → Int} {i : Nat} (r c : Nat) (h0 : det i A ≠ 0) : bar A i r c * bar A i i i - bar A i r i * bar A i i c = det i A * bar A (i + 1) r c := by
  obtain ⟨C, hC⟩ := bar_col A i i
  obtain ⟨C', hC'⟩ := bar_col A i r
  let D := bord A (i + 1) r c
  have hD : ∀ k j, k < i → D k j = A k (if j < i + 1 then j else c) := fun k j hk => by simp only [D, bord]; rw [if_pos (show k < i + 1 by omega)]
  have hDi : ∀ j, D i j = A i (if j < i + 1 then j else c) := fun j => by simp only [D, bord]; rw [if_pos (show i < i + 1 by omega)]
  have hDr : ∀ j, D (i + 1) j = A r (if j < i + 1 then j else c) := fun j => by simp only [D, bord]; rw [if_neg (show ¬ i + 1 < i + 1 by omega)]
  have h1 := det_row_combo (n := i + 2) D (r := i) (fun k => if k < i then C k else if k = i then det i A else 0) (by omega)
  have h2 := det_row_combo (n := i + 2) (setRow D i fun j => sumN (fun k => (if k < i then C k else if k = i then det i A else 0) * D k j) (i + 2)) (r := i + 1) (fun k => if k < i then C' k else if k = i + 1 then det i A else 0) (by omega)
  rw [h1] at h2
  have ev : ∀ j, j < i + 2 → sumN (fun k => (if k < i then C k else if k = i then det i A else 0) * D k j) (i + 2) = bar A i i i * unit i j + bar A i i c * unit (i + 1) j := fun j hj => by
    have e : sumN (fun k => (if k < i then C k else if k = i then det i A else 0) * D k j) (i + 2) = bar A i i (if j < i + 1 then j else c) := by
      rw [hC, sum_lead (Nat.le_refl _) (by omega), hDi, sum_congr (g := fun k => C k * A k (if j < i + 1 then j else c)) fun k hk => by rw [hD k j hk]]
    rw [e]
    by_cases a : j < i
    · rw [if_pos (by omega), bar_off a]; simp [unit, show ¬ j = i by omega, show ¬ j = i + 1 by omega]
    · by_cases b : j = i
      · subst b; rw [if_pos (by omega)]; simp [unit]
      · rw [if_neg (by omega)]; simp [unit, b, show j = i + 1 by omega]
  have ev' : ∀ j, j < i + 2 → sumN (fun k => (if k < i then C' k else if k = i + 1 then det i A else 0) * setRow D i (fun j => sumN (fun k => (if k < i then C k else if k = i then det i A else 0) * D k j) (i + 2)) k j) (i + 2) = bar A i r i * unit i j + bar A i r c * unit (i + 1) j := fun j hj => by
    have e : sumN (fun k => (if k < i then C' k else if k = i + 1 then det i A else 0) * setRow D i (fun j => sumN (fun k => (if k < i then C k else if k = i then det i A else 0) * D k j) (i + 2)) k j) (i + 2) = bar A i r (if j < i + 1 then j else c) := by
      rw [hC', sum_lead (v := fun k => setRow D i (fun j => sumN (fun k => (if k < i then C k else if k = i then det i A else 0) * D k j) (i + 2)) k j) (by omega) (by omega)]
      have a1 : ∀ k, k ≠ i → setRow D i (fun j => sumN (fun k => (if k < i then C k else if k = i then det i A else 0) * D k j) (i + 2)) k j = D k j := fun k hk => if_neg hk
      rw [a1 _ (by omega), hDr, sum_congr (g := fun k => C' k * A k (if j < i + 1 then j else c)) fun k hk => by rw [a1 k (by omega), hD k j hk]]
    rw [e]
    by_cases a : j < i
    · rw [if_pos (by omega), bar_off a]; simp [unit, show ¬ j = i by omega, show ¬ j = i + 1 by omega]
    · by_cases b : j = i
      · subst b; rw [if_pos (by omega)]; simp [unit]
      · rw [if_neg (by omega)]; simp [unit, b, show j = i + 1 by omega]
  have e3 := det_tail2 (n := i) D (bar A i i i) (bar A i i c) (bar A i r i) (bar A i r c)
  have e4 : det i D = det i A := det_congr fun a b ha hb => by
    rw [hD a b ha, if_pos (by omega)]
  rw [e4] at e3
  have e5 : det (i + 2) (setRow (setRow D i fun j => bar A i i i * unit i j + bar A i i c * unit (i + 1) j) (i + 1) fun j => bar A i r i * unit i j + bar A i r c * unit (i + 1) j) = det i A * (det i A * bar A (i + 1) r c) := by
    rw [show det i A * (det i A * bar A (i + 1) r c) = (if i + 1 < i then C' (i + 1) else if i + 1 = i + 1 then det i A else 0) * ((if i < i then C i else if i = i then det i A else 0) * det (i + 2) D) by
      rw [if_neg (by omega), if_pos rfl, if_neg (by omega), if_pos rfl]; rfl, ← h2]
    refine det_congr fun a b ha hb => ?_
    unfold setRow
    by_cases x : a = i + 1
    · rw [if_pos x, if_pos x]; exact (ev' b hb).symm
    · rw [if_neg x, if_neg x]
      by_cases y : a = i
      · rw [if_pos y, if_pos y]; exact (ev b hb).symm
      · rw [if_neg y, if_neg y]
  rw [e5] at e3
  have : det i A * (det i A * bar A (i + 1) r c) = det i A * (bar A i r c * bar A i i i - bar A i r i * bar A i i c) := by rw [e3]; grind
  exact (Int.eq_of_mul_eq_mul_left h0 this).symm

/-- No pivot: the determinant is 0. -/
theorem bar_none {A : Nat → Nat → Int} {n i : Nat} (hi : i < n) (h0 : det i A ≠ 0) (h : ∀ r, i ≤ r → r < n → bar A i r i = 0) : det n A = 0 := by
  obtain ⟨E, hE⟩ := bar_row A i i
  have h1 := det_combo (n := n) A (c := i) (fun k => if k < i then E k else if k = i then det i A else 0) hi
  rw [if_neg (by omega), if_pos rfl] at h1
  have h2 : ∀ r, r < n → sumN (fun k => (if k < i then E k else if k = i then det i A else 0) * A r k) n = 0 := fun r hr => by
    have h3 : bar A i r i = 0 := by
      by_cases a : r < i
      · exact bar_off' a
      · exact h r (by omega) hr
    rw [sum_lead (Nat.le_refl _) hi, ← hE r, h3]
  have h3 : det n (setCol A i fun r => sumN (fun k => (if k < i then E k else if k = i then det i A else 0) * A r k) n) = 0 := by
    rw [det_congr (m' := setCol A i fun _ => 0) fun a b ha _ => by
      unfold setCol
      split
      · exact h2 a ha
      · rfl]
    exact det_col_zero _ hi
  rw [h3] at h1
  rcases Int.mul_eq_zero.1 h1.symm with h | h
  · exact absurd h h0
  · exact h

/-- Rows exchanged below the first i. -/
theorem bar_xch {A : Nat → Nat → Int} {i p q : Nat} (hp : i ≤ p) (hq : i ≤ q) (r c : Nat) (hr : i ≤ r) : bar (fun a b => A (xch p q a) b) i r c = bar A i (xch p q r) c := det_congr fun a b _ _ => by
  unfold bord
  dsimp only
  by_cases h : a < i
  · rw [if_pos h, if_pos h, show xch p q a = a by unfold xch; rw [if_neg (by omega), if_neg (by omega)]]
  · rw [if_neg h, if_neg h]
theorem det_xch_low {A : Nat → Nat → Int} {i p q : Nat} (hp : i ≤ p) (hq : i ≤ q) : det i (fun a b => A (xch p q a) b) = det i A := det_congr fun a b ha _ => by
  rw [show xch p q a = a by unfold xch; rw [if_neg (by omega), if_neg (by omega)]]

/-! ### bounds -/
def sumU (f : Nat → Nat) : Nat → Nat
  | 0 => 0
  | n + 1 => sumU f n + f n
theorem sumU_le {f g : Nat → Nat} : ∀ {n : Nat}, (∀ i, i < n → f i ≤ g i) → sumU f n ≤ sumU g n
  | 0, _ => Nat.le_refl _
  | n + 1, h => Nat.add_le_add (sumU_le fun i hi => h i (by omega)) (h n (by omega))
theorem sumU_congr {f g : Nat → Nat} : ∀ {n : Nat}, (∀ i, i < n → f i = g i) → sumU f n = sumU g n
  | 0, _ => rfl
  | n + 1, h => by unfold sumU; rw [sumU_congr fun i hi => h i (by omega), h n (by omega)]
theorem sumU_add (f g : Nat → Nat) : ∀ n, sumU (fun i => f i + g i) n = sumU f n + sumU g n
  | 0 => rfl
  | n + 1 => by simp only [sumU]; rw [sumU_add f g n]; omega
theorem sumU_mul (c : Nat) (f : Nat → Nat) : ∀ n, sumU (fun i => f i * c) n = sumU f n * c
  | 0 => by simp [sumU]
  | n + 1 => by simp only [sumU]; rw [sumU_mul c f n, Nat.add_mul]
theorem sumU_const (c : Nat) : ∀ n, sumU (fun _ => c) n = n * c
  | 0 => by simp [sumU]
  | n + 1 => by simp only [sumU]; rw [sumU_const c n, Nat.succ_mul]
theorem sumU_sk (f : Nat → Nat) (j : Nat) : ∀ n, j ≤ n → sumU (fun b => f (sk j b)) n + f j = sumU f (n + 1)
  | 0, h => by obtain rfl : j = 0 := by omega
               rfl
  | n + 1, h => by
    by_cases e : j = n + 1
    · subst e
      show sumU (fun b => f (sk (n + 1) b)) (n + 1) + f (n + 1) = sumU f (n + 1) + f (n + 1)
      rw [sumU_congr (g := f) fun i hi => by rw [sk_lt hi]]
    · have := sumU_sk f j n (by omega)
      show sumU (fun b => f (sk j b)) n + f (sk j n) + f j = sumU f (n + 1) + f (n + 1)
      rw [sk_ge (by omega)]; omega
theorem natAbs_sum (f : Nat → Int) : ∀ n, (sumN f n).natAbs ≤ sumU (fun i => (f i).natAbs) n
  | 0 => Nat.le_refl _
  | n + 1 => by
    have := natAbs_sum f n
    simp only [sumN, sumU]
    omega
def prodU (f : Nat → Nat) : Nat → Nat
  | 0 => 1
  | n + 1 => prodU f n * f n
theorem prodU_head (f : Nat → Nat) : ∀ n, prodU f (n + 1) = f 0 * prodU (fun i => f (i + 1)) n
  | 0 => by simp [prodU]
  | n + 1 => by
    show prodU f (n + 1) * f (n + 1) = f 0 * (prodU (fun i => f (i + 1)) n * f (n + 1))
    rw [prodU_head f n, Nat.mul_assoc]
theorem det_abs : ∀ (n : Nat) (m : Nat → Nat → Int) (B : Nat → Nat), (∀ i, i < n → sumU (fun j => (m i j).natAbs) n ≤ B i) → (det n m).natAbs ≤ prodU B n
  | 0, _, _, _ => Nat.le_refl _
  | n + 1, m, B, h => by
    unfold det
    refine Nat.le_trans (natAbs_sum _ _) ?_
    rw [prodU_head]
    refine Nat.le_trans (sumU_le (g := fun j => (m 0 j).natAbs * prodU (fun i => B (i + 1)) n) fun j hj => ?_) ?_
    · rw [Int.natAbs_mul, Int.natAbs_mul, sgn_abs, Nat.one_mul]
      refine Nat.mul_le_mul_left _ (det_abs n _ _ fun i hi => ?_)
      refine Nat.le_trans ?_ (h (i + 1) (by omega))
      have := sumU_sk (fun b => (m (i + 1) b).natAbs) j n (by omega)
      omega
    · rw [sumU_mul]
      exact Nat.mul_le_mul_right _ (h 0 (by omega))
theorem prodU_sq {B q : Nat → Nat} : ∀ {n : Nat}, (∀ i, i < n → B i * B i ≤ 2 ^ q i) → prodU B n * prodU B n ≤ 2 ^ sumU q n
  | 0, _ => Nat.le_refl _
  | n + 1, h => by
    have h1 := prodU_sq fun i (hi : i < n) => h i (by omega)
    have h2 := Nat.mul_le_mul h1 (h n (by omega))
    rw [← Nat.pow_add] at h2
    simp only [prodU, sumU]
    refine Nat.le_trans (Nat.le_of_eq ?_) h2
    grind
/-- Row r of the matrix has at most the square root of 2 ^ q r in it. -/
def Rowed (n : Nat) (A : Nat → Nat → Int) (q : Nat → Nat) : Prop := ∀ i, i < n → sumU (fun j => (A i j).natAbs) n * sumU (fun j => (A i j).natAbs) n ≤ 2 ^ q i
theorem sumU_bord (f : Nat → Nat) {i c n : Nat} (h1 : i ≤ c) (h2 : c < n) : sumU (fun b => f (if b < i then b else c)) (i + 1) ≤ sumU f n := by
  have e : ∀ k, sumU f i + f (i + k) ≤ sumU f (i + k + 1) := fun k => by
    induction k with
    | zero => exact Nat.le_refl _
    | succ k ih =>
      show _ ≤ sumU f (i + k + 1) + f (i + (k + 1))
      omega
  have mono : ∀ k, sumU f (c + 1) ≤ sumU f (c + 1 + k) := fun k => by
    induction k with
    | zero => exact Nat.le_refl _
    | succ k ih =>
      show _ ≤ sumU f (c + 1 + k) + _
      omega
  have h3 := e (c - i)
  have h4 := mono (n - c - 1)
  rw [show i + (c - i) = c by omega] at h3
  rw [show c + 1 + (n - c - 1) = n by omega] at h4
  simp only [sumU]
  rw [if_neg (by omega), sumU_congr (g := f) fun b hb => by rw [if_pos hb]]
  omega
theorem bar_sq {n : Nat} {A : Nat → Nat → Int} {q : Nat → Nat} (h : Rowed n A q) {i r c : Nat} (h1 : i ≤ r) (h2 : r < n) (h3 : i ≤ c) (h4 : c < n) : (bar A i r c).natAbs * (bar A i r c).natAbs ≤ 2 ^ sumU q n := by
  have e1 := det_abs (i + 1) (bord A i r c) (fun a => sumU (fun j => (A (if a < i then a else r) j).natAbs) n) fun a ha => sumU_bord (fun b => (A (if a < i then a else r) b).natAbs) h3 h4
  have e2 := prodU_sq (n := i + 1) (B := fun a => sumU (fun j => (A (if a < i then a else r) j).natAbs) n) (q := fun a => q (if a < i then a else r)) fun a ha => h _ (by split <;> omega)
  refine Nat.le_trans (Nat.mul_le_mul e1 e1) (Nat.le_trans e2 (Nat.pow_le_pow_right (by omega) (sumU_bord q h1 h2)))
theorem le_of_sq {x m : Nat} (h : x * x ≤ 2 ^ (2 * m)) : x ≤ 2 ^ m := by
  refine Nat.le_of_not_lt fun hx => ?_
  have h1 : 2 ^ m * 2 ^ m < x * x := Nat.mul_lt_mul_of_lt_of_lt hx hx
  rw [← Nat.pow_add, ← Nat.two_mul] at h1
  omega
theorem bar_abs {n : Nat} {A : Nat → Nat → Int} {q : Nat → Nat} (h : Rowed n A q) (hq : sumU q n ≤ 60) {i r c : Nat} (h1 : i ≤ r) (h2 : r < n) (h3 : i ≤ c) (h4 : c < n) : (bar A i r c).natAbs ≤ 2 ^ 30 :=
  le_of_sq (Nat.le_trans (bar_sq h h1 h2 h3 h4) (Nat.pow_le_pow_right (by omega) hq))
theorem sumU_xch {q : Nat → Nat} {p r : Nat} : ∀ {n : Nat}, p < n → r < n → sumU (fun i => q (xch p r i)) n = sumU q n := by
  have single : ∀ (n : Nat) (v : Nat → Nat) (a : Nat) (x : Nat), a < n → sumU (fun i => if i = a then x else v i) n + v a = sumU v n + x := fun n v a x => by
    induction n with
    | zero => intro h; omega
    | succ n ih =>
      intro h
      simp only [sumU]
      by_cases e : a = n
      · subst e
        rw [if_pos rfl, sumU_congr (g := v) fun i hi => if_neg (by omega)]; omega
      · rw [if_neg (fun h => e h.symm)]; have := ih (by omega); omega
  intro n hp hr
  have e : (fun i => q (xch p r i)) = fun i => if i = p then q r else if i = r then q p else q i := by
    funext i; unfold xch; split
    · rfl
    · split <;> rfl
  rw [e]
  have h1 := single n (fun i => if i = r then q p else q i) p (q r) hp
  have h2 := single n q r (q p) hr
  by_cases x : p = r
  · subst x; simp only [if_pos] at h1; omega
  · rw [if_neg x] at h1; omega
theorem Rowed.xch {n : Nat} {A : Nat → Nat → Int} {q : Nat → Nat} (h : Rowed n A q) {p r : Nat} (hp : p < n) (hr : r < n) : Rowed n (fun a b => A (xch p r a) b) fun a => q (xch p r a) := fun i hi => h _ (by unfold Dt.xch; split <;> (try split) <;> omega)

end Go.Dt
