/- Texts of my own, merged by program: Fa Na. -/
import Init
import Derived.Test.YtbekeccfjmoonaaDoorM22
import Derived.Test.YtbekeccfjmoonaaDoorM23
import Derived.Test.YtbekeccfjmoonaaDoorM13
set_option linter.all false
/- Residues modulo 2^31 - 1, plainly: all of them but 0 are powers of 7, so the power p - 2 undoes. No program. -/
namespace Go.Fm

abbrev pr : Nat := 2147483647

/-- As many places as values: each value is met. -/
theorem pigeon : ∀ (n : Nat) (f : Nat → Nat), (∀ i, i < n → f i < n) → (∀ i j, i < n → j < n → f i = f j → i = j) → ∀ y, y < n → ∃ i, i < n ∧ f i = y
  | 0, _, _, _, y, hy => absurd hy (Nat.not_lt_zero y)
  | n + 1, f, h1, h2, y, hy => by
    have hz : f n < n + 1 := h1 n (Nat.lt_succ_self n)
    by_cases e : f n = n
    · by_cases ey : y = n
      · exact ⟨n, Nat.lt_succ_self n, by rw [e, ey]⟩
      · obtain ⟨i, hi, hf⟩ := pigeon n f (fun i hi => by
          have := h1 i (by omega)
          have hne : f i ≠ n := fun h => by have := h2 i n (by omega) (by omega) (by rw [h, e]); omega
          omega) (fun i j hi hj => h2 i j (by omega) (by omega)) y (by omega)
        exact ⟨i, by omega, hf⟩
    · have ih := pigeon n (fun i => if f i = n then f n else f i) (fun i hi => by
          have := h1 i (by omega)
          split <;> omega) (fun i j hi hj he => by
          split at he <;> split at he
          · rename_i a b; exact h2 i j (by omega) (by omega) (by rw [a, b])
          · have := h2 n j (by omega) (by omega) he; omega
          · have := h2 i n (by omega) (by omega) he; omega
          · exact h2 i j (by omega) (by omega) he)
      by_cases ey : y = n
      · obtain ⟨i, hi, hf⟩ := ih (f n) (by omega)
        split at hf
        · rename_i a; exact ⟨i, by omega, by rw [ey]; exact a⟩
        · have := h2 i n (by omega) (by omega) hf; omega
      · by_cases ez : y = f n
        · exact ⟨n, by omega, ez.symm⟩
        · obtain ⟨i, hi, hf⟩ := ih y (by omega)
          split at hf
          · exact absurd hf.symm ez
          · exact ⟨i, by omega, hf⟩

/-- Powers by squares. -/
def pw : Nat → Nat → Nat → Nat → Nat
  | 0, out, _, _ => out
  | n + 1, out, b, k => pw n (if k % 2 = 1 then out * b % pr else out) (b * b % pr) (k / 2)
theorem pow_mod' (a n : Nat) : a ^ n % pr = (a % pr) ^ n % pr := Nat.pow_mod a n pr
theorem pw_val : ∀ (n out b k : Nat), k < 2 ^ n → pw n out b k % pr = out * b ^ k % pr
  | 0, out, b, k, h => by
    have : k = 0 := by simp at h; exact h
    subst this
    simp [pw]
  | n + 1, out, b, k, h => by
    have hk : k / 2 < 2 ^ n := by rw [Nat.pow_succ] at h; omega
    unfold pw
    rw [pw_val n _ _ _ hk]
    have e : (b * b % pr) ^ (k / 2) % pr = b ^ (2 * (k / 2)) % pr := by
      rw [← pow_mod', Nat.pow_mul, Nat.pow_two]
    have hb : b ^ k = (if k % 2 = 1 then b else 1) * b ^ (2 * (k / 2)) := by
      by_cases h1 : k % 2 = 1
      · rw [if_pos h1]
        conv => lhs; rw [show k = 2 * (k / 2) + 1 by omega]
        rw [Nat.pow_succ, Nat.mul_comm]
      · rw [if_neg h1, Nat.one_mul]
        congr 1
        omega
    rw [hb, Nat.mul_mod, e]
    by_cases h1 : k % 2 = 1
    · rw [if_pos h1, if_pos h1, Nat.mod_mod, ← Nat.mul_mod, Nat.mul_assoc]
    · rw [if_neg h1, if_neg h1, Nat.one_mul, ← Nat.mul_mod]

def One (k : Nat) : Prop := 7 ^ k % pr = 1
theorem one_iff (k : Nat) (hk : k < 2 ^ 32) : One k ↔ pw 32 1 7 k % pr = 1 := by
  unfold One
  rw [pw_val 32 1 7 k hk, Nat.one_mul]
theorem one_top : One 2147483646 := (one_iff 2147483646 (by decide)).2 (by decide +kernel)
theorem not2 : ¬ One 1073741823 := fun h => by
  have := (one_iff 1073741823 (by decide)).1 h
  revert this; decide +kernel
theorem not3 : ¬ One 715827882 := fun h => by
  have := (one_iff 715827882 (by decide)).1 h
  revert this; decide +kernel
theorem not7 : ¬ One 306783378 := fun h => by
  have := (one_iff 306783378 (by decide)).1 h
  revert this; decide +kernel
theorem not11 : ¬ One 195225786 := fun h => by
  have := (one_iff 195225786 (by decide)).1 h
  revert this; decide +kernel
theorem not31 : ¬ One 69273666 := fun h => by
  have := (one_iff 69273666 (by decide)).1 h
  revert this; decide +kernel
theorem not151 : ¬ One 14221746 := fun h => by
  have := (one_iff 14221746 (by decide)).1 h
  revert this; decide +kernel
theorem not331 : ¬ One 6487866 := fun h => by
  have := (one_iff 6487866 (by decide)).1 h
  revert this; decide +kernel

theorem One.add {a b : Nat} (ha : One a) (hb : One b) : One (a + b) := by
  unfold One at *
  rw [Nat.pow_add, Nat.mul_mod, ha, hb]; decide
theorem One.mul {a : Nat} (ha : One a) : ∀ n, One (a * n)
  | 0 => by unfold One; rw [Nat.mul_zero]; decide
  | n + 1 => by rw [Nat.mul_succ]; exact (One.mul ha n).add ha
theorem One.sub {a b : Nat} (ha : One (a + b)) (hb : One b) : One a := by
  unfold One at *
  rw [Nat.pow_add, Nat.mul_mod, hb, Nat.mul_one, Nat.mod_mod] at ha
  exact ha
theorem exists_least {P : Nat → Prop} (h : ∃ n, P n) : ∃ n, P n ∧ ∀ m, m < n → ¬ P m := by
  obtain ⟨n, hn⟩ := h
  induction n using Nat.strongRecOn with
  | ind n ih =>
    by_cases hx : ∃ m, m < n ∧ P m
    · obtain ⟨m, hm, hp⟩ := hx
      exact ih m hm hp
    · exact ⟨n, hn, fun m hm hp => hx ⟨m, hm, hp⟩⟩
theorem small_prime {q : Nat} (hq : ∀ d, d < q + 1 → d ∣ q → d = 1 ∨ d = q) (h0 : 0 < q) {m : Nat} (h : ¬ q ∣ m) : Nat.Coprime m q := by
  have hd : Nat.gcd m q ∣ q := Nat.gcd_dvd_right m q
  rcases hq (Nat.gcd m q) (Nat.lt_succ_of_le (Nat.le_of_dvd h0 hd)) hd with h1 | h1
  · exact h1
  · exact absurd (h1 ▸ Nat.gcd_dvd_left m q) h
theorem factor {m : Nat} (hm : m ∣ 2147483646) (h1 : m ≠ 1) : 2 ∣ m ∨ 3 ∣ m ∨ 7 ∣ m ∨ 11 ∣ m ∨ 31 ∣ m ∨ 151 ∣ m ∨ 331 ∣ m := by
  refine Classical.byContradiction fun hn => h1 ?_
  simp only [not_or] at hn
  obtain ⟨a2, a3, a7, a11, a31, a151, a331⟩ := hn
  have c2 := small_prime (q := 2) (by decide) (by omega) a2
  have c3 := small_prime (q := 3) (by decide) (by omega) a3
  have c7 := small_prime (q := 7) (by decide) (by omega) a7
  have c11 := small_prime (q := 11) (by decide) (by omega) a11
  have c31 := small_prime (q := 31) (by decide) (by omega) a31
  have c151 := small_prime (q := 151) (by decide +kernel) (by omega) a151
  have c331 := small_prime (q := 331) (by decide +kernel) (by omega) a331
  have c : Nat.Coprime m (2 * (3 * (3 * (7 * (11 * (31 * (151 * 331))))))) := c2.mul_right (c3.mul_right (c3.mul_right (c7.mul_right (c11.mul_right (c31.mul_right (c151.mul_right c331))))))
  have e : (2147483646 : Nat) = 2 * (3 * (3 * (7 * (11 * (31 * (151 * 331)))))) := by decide
  rw [e] at hm
  exact Nat.Coprime.eq_one_of_dvd c hm
/-- The least power of 7 that is 1. -/
theorem order {k : Nat} (hk : One k) : 2147483646 ∣ k := by
  obtain ⟨d, ⟨hd, h0⟩, hl⟩ := exists_least (P := fun n => One n ∧ 0 < n) ⟨2147483646, one_top, by decide⟩
  have dv : ∀ k, One k → d ∣ k := fun k hk => by
    refine Nat.dvd_of_mod_eq_zero (Classical.byContradiction fun hne => ?_)
    refine hl (k % d) (Nat.mod_lt _ h0) ⟨?_, Nat.pos_of_ne_zero hne⟩
    have := hd.mul (k / d)
    refine One.sub (b := d * (k / d)) ?_ this
    rw [Nat.mod_add_div]; exact hk
  have htop := dv _ one_top
  obtain ⟨m, hm⟩ := htop
  by_cases h1 : m = 1
  · rw [h1, Nat.mul_one] at hm
    rw [hm]; exact dv k hk
  · exfalso
    have hmd : m ∣ 2147483646 := ⟨d, by rw [Nat.mul_comm]; exact hm⟩
    have key : ∀ q r, q * r = 2147483646 → q ∣ m → 0 < q → One r := fun q r hqr hq hq0 => by
      obtain ⟨s, hs⟩ := hq
      have : r = d * s := by
        refine Nat.eq_of_mul_eq_mul_left hq0 ?_
        rw [hqr, hm, hs, ← Nat.mul_assoc, ← Nat.mul_assoc, Nat.mul_comm d q]
      rw [this]; exact hd.mul s
    rcases factor hmd h1 with h | h | h | h | h | h | h
    · exact not2 (key 2 _ (by decide) h (by omega))
    · exact not3 (key 3 _ (by decide) h (by omega))
    · exact not7 (key 7 _ (by decide) h (by omega))
    · exact not11 (key 11 _ (by decide) h (by omega))
    · exact not31 (key 31 _ (by decide) h (by omega))
    · exact not151 (key 151 _ (by decide) h (by omega))
    · exact not331 (key 331 _ (by decide) h (by omega))
theorem power {x : Nat} (h0 : 0 < x) (hx : x < pr) : ∃ k, 7 ^ k % pr = x := by
  have hx' : x < 2147483647 := hx
  have hne : ∀ k, k < 2147483646 → 7 ^ k % pr ≠ 0 := fun k hk e => by
    have h1 : One (k + (2147483646 - k)) := by rw [show k + (2147483646 - k) = 2147483646 by omega]; exact one_top
    unfold One at h1
    rw [Nat.pow_add, Nat.mul_mod, e, Nat.zero_mul] at h1
    revert h1; decide
  obtain ⟨k, _, hk⟩ := pigeon 2147483646 (fun k => 7 ^ k % pr - 1) (fun i hi => by
      have : 7 ^ i % pr < 2147483647 := Nat.mod_lt (7 ^ i) (show 0 < pr by decide)
      have := hne i hi
      omega) (fun i j hi hj he => by
      have a := hne i hi
      have b := hne j hj
      have e : 7 ^ i % pr = 7 ^ j % pr := by omega
      have half : ∀ i j, i < 2147483646 → j < 2147483646 → i < j → 7 ^ i % pr = 7 ^ j % pr → False := fun i j hi hj hij e => by
        have h1 : One (j + (2147483646 - i)) := by
          unfold One
          rw [Nat.pow_add, Nat.mul_mod, ← e, ← Nat.mul_mod, ← Nat.pow_add, show i + (2147483646 - i) = 2147483646 by omega]
          exact one_top
        have h2 : One (j - i) := One.sub (b := 2147483646) (by rw [show j - i + 2147483646 = j + (2147483646 - i) by omega]; exact h1) one_top
        have := Nat.le_of_dvd (by omega) (order h2)
        omega
      rcases Nat.lt_trichotomy i j with h | h | h
      · exact (half i j hi hj h e).elim
      · exact h
      · exact (half j i hj hi h e.symm).elim) (x - 1) (by omega)
  have hk2 : 7 ^ k % pr - 1 = x - 1 := hk
  refine ⟨k % 2147483646, ?_⟩
  have e : 7 ^ (k % 2147483646) % pr = 7 ^ k % pr := by
    conv => rhs; rw [← Nat.mod_add_div k 2147483646]
    have := one_top.mul (k / 2147483646)
    unfold One at this
    rw [Nat.pow_add, Nat.mul_mod, this, Nat.mul_one, Nat.mod_mod]
  have := hne (k % 2147483646) (Nat.mod_lt _ (by decide))
  rw [e] at this ⊢
  omega
/-- Fermat: the power p - 2 undoes. -/
theorem undo {x : Nat} (h0 : 0 < x) (hx : x < pr) (e : Nat) (he : e = 2147483645) : x ^ e * x % pr = 1 := by
  obtain ⟨k, hk⟩ := power h0 hx
  rw [← Nat.pow_succ, ← hk, ← Nat.pow_mod, ← Nat.pow_mul, Nat.mul_comm]
  have h1 : One (e.succ * k) := by
    rw [show e.succ = 2147483646 by omega]
    exact one_top.mul k
  rw [Nat.mul_comm] at h1
  first
    | exact h1
    | (rw [Nat.mul_comm] at h1; exact h1)
theorem undo_pw {x : Nat} (h0 : 0 < x) (hx : x < pr) (e : Nat) (he : e = 2147483645) : pw 32 1 x e % pr * x % pr = 1 := by
  rw [pw_val 32 1 x e (by rw [he]; decide), Nat.one_mul, Nat.mul_mod, Nat.mod_mod, ← Nat.mul_mod]
  exact undo h0 hx e he
theorem pw_zero (n out b : Nat) : pw n out b 0 % pr = out % pr := by
  rw [pw_val n out b 0 (Nat.two_pow_pos n), Nat.pow_zero, Nat.mul_one]

end Go.Fm

/- Contracts: the inverse modulo the prime, IndexFunc at rows. -/
namespace Go.Proofs.YtbekeccfjmoonaaDoor
open Go.Lf Go.RowKit Go.Dt

def invN (x : Nat) : Nat := Fm.pw 32 1 x 2147483645 % Fm.pr
theorem invN_lt (x : Nat) : invN x < Fm.pr := Nat.mod_lt _ (by decide)
theorem invN_mul {x : Nat} (h0 : 0 < x) (hx : x < Fm.pr) : invN x * x % Fm.pr = 1 := Fm.undo_pw h0 hx 2147483645 rfl
theorem inv_calls {x : Nat} (w : World) (hx : x < Fm.pr) : Calls Tryd.prog 60 #[.int .i64 x] w fun e w' => w = w' ∧ e = .returned (.int .i64 (invN x : Int)) := by
  refine lift60 ?_
  unfold S60 S60L0
  refine ⟨fun t3 t4 t5 wr => ∃ n out b k : Nat, t3 = .int .i64 out ∧ t4 = .int .i64 b ∧ t5 = .int .i64 k ∧ out < Fm.pr ∧ b < Fm.pr ∧ k ≤ 2147483645 ∧ k < 2 ^ n ∧ Fm.pw n out b k % Fm.pr = invN x ∧ w = wr, fun _ _ t5 _ => (intOf t5).toNat,
    ⟨32, 1, x, 2147483645, rfl, rfl, rfl, by decide, hx, Nat.le_refl _, by decide, rfl, rfl⟩, ?_⟩
  rintro _ _ _ _ _ ⟨n, out, b, k, rfl, rfl, rfl, ho, hb, hk, hkn, he, rfl⟩
  have hob : out * b ≤ 4611686018427387904 := Nat.le_trans (Nat.mul_le_mul (Nat.le_of_lt ho) (Nat.le_of_lt hb)) (by decide)
  have hbb : b * b ≤ 4611686018427387904 := Nat.le_trans (Nat.mul_le_mul (Nat.le_of_lt hb) (Nat.le_of_lt hb)) (by decide)
  by_cases h0 : k = 0
  · subst h0
    have : ¬ (0 : Int) < ((0 : Nat) : Int) := by omega
    simp only [r_gtr, decide_eq_false this, r_condF]
    refine ⟨by first | rfl | trivial, ?_⟩
    rw [← he, Fm.pw_zero, Nat.mod_eq_of_lt ho]
  · have h0' : (0 : Int) < (k : Int) := by omega
    obtain ⟨m, rfl⟩ : ∃ m, n = m + 1 := by
      match n, hkn with
      | 0, hkn => rw [Nat.pow_zero] at hkn; omega
      | m + 1, _ => exact ⟨m, rfl⟩
    have hkm : k / 2 < 2 ^ m := by rw [Nat.pow_succ] at hkn; omega
    have hstep : Fm.pw (m + 1) out b k = Fm.pw m (if k % 2 = 1 then out * b % Fm.pr else out) (b * b % Fm.pr) (k / 2) := rfl
    rw [hstep] at he
    simp only [r_gtr, decide_eq_true h0', r_condT]
    rw [show (2 : Int) = ((2 : Nat) : Int) from rfl, show (2147483647 : Int) = ((Fm.pr : Nat) : Int) from rfl, r_remN k 2 (by decide), r_eql]
    refine r_join1 (fun t wj => ∃ o : Nat, t = .int .i64 o ∧ o < Fm.pr ∧ Fm.pw m o (b * b % Fm.pr) (k / 2) % Fm.pr = invN x ∧ w = wj) ?_ fun kk hkk => ?_
    · rintro _ _ ⟨o, rfl, ho', he', rfl⟩
      rw [r_mulN b b (by omega), r_remN (b * b) _ (by decide), r_quoN k 2 (by decide) (by omega)]
      exact ⟨⟨m, o, _, _, rfl, rfl, rfl, ho', Nat.mod_lt _ (by decide), by omega, hkm, he', by first | rfl | trivial⟩, by simp only [intOf]; omega⟩
    · by_cases h1 : k % 2 = 1
      · have h1' : ((k % 2 : Nat) : Int) = 1 := by omega
        rw [if_pos h1] at he
        rw [show (1 : Int) = ((1 : Nat) : Int) from rfl] at *
        rw [decide_eq_true h1', r_condT, r_mulN out b (by omega), r_remN (out * b) _ (by decide)]
        exact hkk _ _ ⟨_, rfl, Nat.mod_lt _ (by decide), he, rfl⟩
      · have h1' : ¬ ((k % 2 : Nat) : Int) = 1 := by omega
        rw [if_neg h1] at he
        rw [show (1 : Int) = ((1 : Nat) : Int) from rfl] at *
        rw [decide_eq_false h1', r_condF]
        exact hkk _ _ ⟨out, rfl, ho, he, rfl⟩

theorem nonzero_calls {u : Value} {l : List Int} {b i : Nat} (w : World) (hr : RdInts w u l) (hi : i < l.length) (hc : w.cell? ⟨b, 0, none⟩ = some (.int .i64 i)) : Calls Tryd.prog 59 #[u, ptrV b] w fun e w' => e = .returned (.bool (!decide (l.getD i 0 = 0))) ∧ w = w' := by
  refine lift59 ?_
  unfold S59
  rw [r_ld hc, ints_ldK hr hi, r_neq]
  exact ⟨rfl, rfl⟩
theorem RdRows.ldK {w : World} {v : Value} {R : List (List Int)} (h : RdRows w v R) {i : Nat} (hi : i < R.length) : ∃ u, RdInts w u (R.getD i []) ∧ ∀ K : Value → Prop, (iaS 1 v (.int .i64 i) fun p => ld1 w p K) = K u := by
  obtain ⟨b, off, cap, u, e, hc, hr⟩ := h.row hi
  have hii : (i : Int).toNat = i := by omega
  exact ⟨u, hr, fun K => by rw [e, r_iaS _ _ _ _ _ _ _ (by omega) (by omega), hii, Nat.mul_one, r_ld hc]⟩

set_option maxRecDepth 100000 in
/-- slices.IndexFunc: the first row whose number i is not 0. -/
theorem pivot_calls {v : Value} {L : List (List Int)} {b i : Nat} (w : World) (hr : RdRows w v L) (hl : L.length ≤ 1000) (hi : ∀ j, j < L.length → i < (L.getD j []).length) (hc : w.cell? ⟨b, 0, none⟩ = some (.int .i64 i)) :
    Calls Tryd.prog 58 #[v, .func (.func 59) #[] #[ptrV b]] w fun e w' => w = w' ∧ ∃ p : Int, e = .returned (.int .i64 p) ∧ ((p = -1 ∧ ∀ j, j < L.length → hat L j i = 0) ∨ (0 ≤ p ∧ p < L.length ∧ hat L p.toNat i ≠ 0)) := by
  obtain ⟨a, cap, ev, _⟩ := hr.len
  have lnv : ∀ K : Value → Prop, ln1 v K = K (.int .i64 L.length) := fun K => by rw [ev]; rfl
  refine lift58 ?_
  unfold S58 S58L0
  rw [lnv]
  refine ⟨fun t8 wr => ∃ j : Nat, j ≤ L.length ∧ t8 = .int .i64 j ∧ (∀ q, q < j → hat L q i = 0) ∧ w = wr, fun t8 _ => L.length - (intOf t8).toNat, ⟨0, by omega, rfl, by simp, rfl⟩, ?_⟩
  rintro _ _ _ ⟨j, hj, rfl, hz, rfl⟩
  by_cases hlt : j < L.length
  case neg =>
    have hlt' : ¬ (j : Int) < (L.length : Int) := by omega
    simp only [r_lss, hlt', decide_false, r_condF]
    exact ⟨by first | rfl | trivial, _, rfl, .inl ⟨rfl, fun q hq => hz q (by omega)⟩⟩
  have hlt' : (j : Int) < (L.length : Int) := by omega
  obtain ⟨u, hu, ldu⟩ := hr.ldK hlt
  simp only [r_lss, decide_eq_true hlt', r_condT]
  rw [ldu]
  refine r_use fok59 (nonzero_calls w hu (hi j hlt) hc) rfl ?_
  rintro _ _ ⟨rfl, rfl⟩
  refine ⟨_, rfl, ?_⟩
  by_cases h0 : hat L j i = 0
  · have h0' : (L.getD j []).getD i 0 = 0 := h0
    simp only [h0', decide_true, Bool.not_true, r_condF]
    rw [r_add _ _ (by omega) (by omega)]
    refine ⟨⟨j + 1, by omega, by go_num, fun q hq => ?_, by first | rfl | trivial⟩, by simp only [intOf]; omega⟩
    by_cases e : q = j
    · rw [e]; exact h0
    · exact hz q (by omega)
  · have h0' : ¬ (L.getD j []).getD i 0 = 0 := h0
    simp only [h0', decide_false, Bool.not_false, r_condT]
    exact ⟨by first | rfl | trivial, _, rfl, .inr ⟨by omega, by omega, by simpa using h0⟩⟩

theorem RdRows.from {w : World} {a : Option Addr} {c : Nat} {R : List (List Int)} (h : RdRows w (.slice a R.length c) R) (hc : R.length ≤ c) {i : Nat} (hi : i ≤ R.length) :
    RdRows w (.slice (if c = i then a else a.map fun x => x.add (i * 1)) (R.length - i) (c - i)) (R.drop i) := by
  obtain ⟨a', cap', vs, e, hl, hh, hrows⟩ := h
  cases e
  refine ⟨_, _, fun j => vs (i + j), by rw [List.length_drop], by rw [List.length_drop]; omega, fun h0 => ?_, fun j hj => ?_⟩
  · rw [List.length_drop] at h0
    obtain ⟨b, off, rfl, hc'⟩ := hh (by omega)
    refine ⟨b, off + i, ?_, fun j hj => ?_⟩
    · rw [if_neg (by omega), Option.map_some, r_addr, Nat.mul_one]
    · rw [List.length_drop] at hj
      have := hc' (i + j) (by omega)
      rw [← Nat.add_assoc] at this
      exact this
  · rw [List.length_drop] at hj
    have := hrows (i + j) (by omega)
    rw [List.getD_eq_getElem?_getD, List.getElem?_drop, ← List.getD_eq_getElem?_getD]
    exact this

theorem IMatV.rdr {base : Nat} {w : World} {v : Value} {vs : List Value} {R : List (List Int)} (h : IMatV base w v vs R) (hR : R.length ≤ 1000) (hr : ∀ i, i < R.length → (R.getD i []).length ≤ 1000) : RdRows w v R :=
  IRows.rd (IMat.rows ⟨vs, h⟩) (by omega) fun r hm => by
    obtain ⟨i, hi, rfl⟩ := List.getElem_of_mem hm
    have := hr i hi
    rw [getD_lt _ _ _ hi] at this
    omega

theorem hat_drop (R : List (List Int)) (i j k : Nat) : hat (R.drop i) j k = hat R (i + j) k := by
  have e : (R.drop i).getD j [] = R.getD (i + j) [] := by rw [List.getD_eq_getElem?_getD, List.getElem?_drop, ← List.getD_eq_getElem?_getD]
  unfold hat
  rw [e]

theorem r_txe {X : Nat → Prop} {w : World} {F : World → (Value → Prop) → Prop} {K : Value → Prop} {v : Value} (h : ∀ (w' : World) (k : Value → Prop), F w' k = k v) (hk : K v) : takeX X w F K := ⟨v, fun w' _ => by rw [h], hk⟩
theorem swap_hat (R : List (List Int)) {i j : Nat} (hi : i < R.length) (hj : j < R.length) (a b : Nat) : hat ((R.set i (R.getD j [])).set j (R.getD i [])) a b = hat R (xch i j a) b := by
  unfold hat xch
  by_cases h1 : a = j
  · subst h1
    rw [List.getD_eq_getElem?_getD (l := (R.set i _).set a _), List.getElem?_set_self (by rw [List.length_set]; exact hj)]
    by_cases h2 : a = i
    · subst h2; rw [if_pos rfl]; rfl
    · rw [if_neg h2, if_pos rfl]; rfl
  · rw [List.getD_eq_getElem?_getD (l := (R.set i _).set j _), List.getElem?_set_ne (Ne.symm h1)]
    by_cases h2 : a = i
    · subst h2
      rw [List.getElem?_set_self hi, if_pos rfl]; rfl
    · rw [List.getElem?_set_ne (Ne.symm h2), if_neg h2, if_neg h1, ← List.getD_eq_getElem?_getD]
theorem swap_sized {n : Nat} {R : List (List Int)} (hs : Sized n n R) {i j : Nat} (hi : i < n) (hj : j < n) : Sized n n ((R.set i (R.getD j [])).set j (R.getD i [])) := by
  refine ⟨by simp [hs.1], fun a ha => ?_⟩
  have l1 := hs.1
  by_cases h1 : a = j
  · subst h1
    rw [List.getD_eq_getElem?_getD, List.getElem?_set_self (by rw [List.length_set]; omega)]
    exact hs.2 i hi
  · rw [List.getD_eq_getElem?_getD, List.getElem?_set_ne (Ne.symm h1)]
    by_cases h2 : a = i
    · subst h2
      rw [List.getElem?_set_self (by omega)]
      exact hs.2 j hj
    · rw [List.getElem?_set_ne (Ne.symm h2), ← List.getD_eq_getElem?_getD]
      exact hs.2 a ha

theorem IMatV.ldFrom {base : Nat} {w : World} {va : Option Addr} {n vc : Nat} {vs : List Value} {R : List (List Int)} (h : IMatV base w (.slice va n vc) vs R) {k i : Nat} (hi : k + i < n) :
    ∃ u, vs[k + i]? = some u ∧ IntsAt base w u (R.getD (k + i) []) ∧ ∀ K : Value → Prop, (iaS 1 (.slice (if vc = k then va else va.map fun x => x.add (k * 1)) (n - k) (vc - k)) (.int .i64 i) fun p => ld1 w p K) = K u := by
  obtain ⟨h1, h2, h3, _⟩ := h
  obtain ⟨a0, c0, e0, hc0⟩ := h1.len
  cases e0
  have hlt : k + i < vs.length := hi
  obtain ⟨g, cap, e, hb, hc⟩ := own_at vE_len h1 (List.getElem?_eq_getElem hlt)
  cases e
  have hc := hc 0 _ rfl
  simp only [Nat.mul_one, Nat.add_zero] at hc
  have hii : (i : Int).toNat = i := by omega
  refine ⟨_, List.getElem?_eq_getElem hlt, ?_, fun K => ?_⟩
  · rw [getD_lt _ _ _ (by omega)]
    exact h3 _ _ _ (List.getElem?_eq_getElem hlt) (List.getElem?_eq_getElem (by omega))
  · rw [if_neg (by omega), Option.map_some, r_addr, r_iaS _ _ _ _ _ _ _ (by omega) (by omega), hii, Nat.zero_add, Nat.mul_one, Nat.mul_one, r_ld hc]

end Go.Proofs.YtbekeccfjmoonaaDoor
