/- Texts of my own, merged by program: Enum Enum2 Sd. -/
import Derived.Test.YtaephdjmpmbfpaaM09
import Derived.Test.YtaephdjmpmbfpaaM02
set_option linter.all false
/- All heaps of a box, in ascending order: that going from one to the next goes through them all. Plain; no program. -/
namespace Go.Hp

/-- The greatest p of lo .. lo + n - 1 with P p. -/
def lastP (P : Nat → Bool) (lo : Nat) : Nat → Option Nat
  | 0 => none
  | n + 1 => if P (lo + n) then some (lo + n) else lastP P lo n

theorem lastP_peel (P : Nat → Bool) (lo : Nat) : ∀ n, lastP P lo (n + 1) = match lastP P (lo + 1) n with
    | some p => some p
    | none => if P lo then some lo else none
  | 0 => by simp [lastP]
  | n + 1 => by
    have ih := lastP_peel P lo n
    have e : lo + (n + 1) = lo + 1 + n := by omega
    rw [lastP, ih]
    simp only [lastP, e]
    by_cases h : P (lo + 1 + n) = true
    · simp [h]
    · simp [h]

theorem lastP_range {P : Nat → Bool} {lo : Nat} : ∀ {n p : Nat}, lastP P lo n = some p → lo ≤ p ∧ p < lo + n
  | 0, p, h => by simp [lastP] at h
  | n + 1, p, h => by
    unfold lastP at h
    split at h
    · cases h; omega
    · have := lastP_range h; omega

theorem lastP_congr {P Q : Nat → Bool} {lo : Nat} : ∀ {n : Nat}, (∀ p, lo ≤ p → p < lo + n → P p = Q p) → lastP P lo n = lastP Q lo n
  | 0, _ => rfl
  | n + 1, h => by
    unfold lastP
    rw [h (lo + n) (by omega) (by omega), lastP_congr fun p h1 h2 => h p h1 (by omega)]

/-- What may grow. -/
def growP (mx : List Int → Int) (s : List Int) (p : Nat) : Bool := decide (s.getD p 0 < mx (s.take p))
/-- One more at p, and zeros behind. -/
def bump (s : List Int) (p : Nat) : List Int := s.take p ++ (s.getD p 0 + 1) :: List.replicate (s.length - p - 1) 0

theorem nxtO_last (mx : List Int → Int) : ∀ (rest pre : List Int), nxtO mx pre rest = (lastP (growP mx (pre ++ rest)) pre.length rest.length).map fun p => (bump (pre ++ rest) p).drop pre.length
  | [], pre => by simp [nxtO, lastP]
  | x :: rest, pre => by
    have ih := nxtO_last mx rest (pre ++ [x])
    have e1 : pre ++ [x] ++ rest = pre ++ x :: rest := by simp
    have e2 : (pre ++ [x]).length = pre.length + 1 := by simp
    rw [e1, e2] at ih
    rw [nxtO, ih, List.length_cons, lastP_peel]
    cases hl : lastP (growP mx (pre ++ x :: rest)) (pre.length + 1) rest.length with
    | some p =>
      have hr := lastP_range hl
      simp only [Option.map_some, Option.some.injEq]
      have hb : ∃ t, bump (pre ++ x :: rest) p = pre ++ x :: t := by
        refine ⟨(bump (pre ++ x :: rest) p).drop (pre.length + 1), ?_⟩
        unfold bump
        have : (pre ++ x :: rest).take p = pre ++ x :: rest.take (p - pre.length - 1) := by
          rw [List.take_append, List.take_of_length_le (by omega)]
          obtain ⟨q, hq⟩ : ∃ q, p - pre.length = q + 1 := ⟨p - pre.length - 1, by omega⟩
          rw [hq, List.take_succ_cons, Nat.add_sub_cancel]
        rw [this]
        simp [List.append_assoc]
      obtain ⟨t, ht⟩ := hb
      rw [ht]
      simp [List.drop_append]
    | none =>
      have hg : growP mx (pre ++ x :: rest) pre.length = decide (x < mx pre) := by simp [growP]
      simp only [Option.map_none, hg]
      by_cases h : x < mx pre
      · simp only [h, decide_true, if_true, Option.map_some, bump]
        have : (pre ++ x :: rest).length - pre.length - 1 = rest.length := by simp
        rw [this]
        simp
      · simp [h]

/-- Rows of B numbers out of a list. -/
def unflat (A B : Nat) (l : List Int) : List (List Int) := (List.range A).map fun i => (l.drop (i * B)).take B

theorem div_lt_of {A B p : Nat} (hB : 0 < B) (hp : p < A * B) : p / B < A := (Nat.div_lt_iff_lt_mul hB).2 hp
theorem place_lt {A B i j : Nat} (hi : i < A) (hj : j < B) : i * B + j < A * B := by
  have : (i + 1) * B ≤ A * B := Nat.mul_le_mul_right _ hi
  rw [Nat.add_mul] at this; omega

theorem unflat_sized {A B : Nat} {l : List Int} (h : l.length = A * B) : Sized A B (unflat A B l) := by
  refine ⟨by simp [unflat], fun i hi => ?_⟩
  have : (i + 1) * B ≤ A * B := Nat.mul_le_mul_right _ hi
  rw [Nat.add_mul] at this
  simp [unflat, hi, h]
  omega

theorem unflat_hat {A B : Nat} {l : List Int} {i j : Nat} (hi : i < A) (hj : j < B) : hat (unflat A B l) i j = l.getD (i * B + j) 0 := by
  have e : (unflat A B l).getD i [] = (l.drop (i * B)).take B := by simp [unflat, hi]
  unfold hat
  rw [e]
  simp only [List.getD_eq_getElem?_getD, List.getElem?_take, hj, if_true, List.getElem?_drop]

theorem heap_ext {A B : Nat} {h h' : List (List Int)} (hs : Sized A B h) (hs' : Sized A B h') (he : ∀ i j, i < A → j < B → hat h i j = hat h' i j) : h = h' := by
  refine List.ext_getElem (by rw [hs.1, hs'.1]) fun i h1 h2 => ?_
  have hi : i < A := by rw [← hs.1]; exact h1
  have r1 : h.getD i [] = h[i] := by simp [List.getD_eq_getElem?_getD, h1]
  have r2 : h'.getD i [] = h'[i] := by simp [List.getD_eq_getElem?_getD, h2]
  have l1 := hs.2 i hi
  have l2 := hs'.2 i hi
  rw [r1] at l1
  rw [r2] at l2
  refine List.ext_getElem (by rw [l1, l2]) fun j h3 h4 => ?_
  have := he i j hi (by omega)
  unfold hat at this
  rw [r1, r2] at this
  simpa [List.getD_eq_getElem?_getD, h3, h4] using this

theorem clr_hat {A B : Nat} {h : List (List Int)} (hs : Sized A B h) (hB : 0 < B) (p : Nat) : ∀ m, p + m ≤ A * B → ∀ i j, i < A → j < B → hat (clr B h p m) i j = if p ≤ i * B + j ∧ i * B + j < p + m then 0 else hat h i j
  | 0, _, i, j, _, _ => by rw [if_neg (by omega)]; rfl
  | m + 1, hm, i, j, hi, hj => by
    have h1 := clr_sized hs hB p m (by omega)
    have hq : (p + m) / B < A := div_lt_of hB (by omega)
    have hdm := Nat.div_add_mod (p + m) B
    rw [Nat.mul_comm] at hdm
    have hml := Nat.mod_lt (p + m) hB
    rw [clr, put2_hat _ _ _ _ _ _ (by rw [h1.1]; exact hq) (by rw [h1.2 _ hq]; exact hml), clr_hat hs hB p m (by omega) i j hi hj]
    have hij : i * B + j = p + m → i = (p + m) / B ∧ j = (p + m) % B := fun e => by
      rw [← e, Nat.add_comm, Nat.add_mul_div_right _ _ hB, Nat.add_mul_mod_self_right, Nat.div_eq_of_lt hj, Nat.mod_eq_of_lt hj]
      omega
    by_cases hc : i = (p + m) / B ∧ j = (p + m) % B
    · obtain ⟨e1, e2⟩ := hc
      have : i * B + j = p + m := by rw [e1, e2]; exact hdm
      rw [if_pos ⟨e1, e2⟩, if_pos (by omega)]
    · have : i * B + j ≠ p + m := fun e => hc (hij e)
      rw [if_neg hc]
      by_cases h3 : p ≤ i * B + j ∧ i * B + j < p + m
      · rw [if_pos h3, if_pos (by omega)]
      · rw [if_neg h3, if_neg (by omega)]

theorem bump_length {s : List Int} {p : Nat} (hp : p < s.length) : (bump s p).length = s.length := by
  simp [bump]; omega
theorem bump_getD {s : List Int} {p k : Nat} (hp : p < s.length) (hk : k < s.length) : (bump s p).getD k 0 = if k < p then s.getD k 0 else if k = p then s.getD p 0 + 1 else 0 := by
  unfold bump
  have hl : (s.take p).length = p := by simp; omega
  rw [List.getD_eq_getElem?_getD, List.getElem?_append, hl]
  split
  · rw [List.getElem?_take, if_pos (by assumption)]; simp [List.getD_eq_getElem?_getD]
  · split
    · subst_vars; simp
    · obtain ⟨q, hq⟩ : ∃ q, k - p = q + 1 := ⟨k - p - 1, by omega⟩
      rw [hq, List.getElem?_cons_succ, List.getElem?_replicate]
      split <;> rfl

theorem most_mx {A B : Nat} {C : Int} {s : List Int} {p : Nat} (hs : s.length = A * B) (hB : 0 < B) (hp : p < A * B) : mostM C (unflat A B s) (p / B) (p % B) = mxF B C (s.take p) := by
  have hi := div_lt_of hB hp
  have hj := Nat.mod_lt p hB
  have hdm := Nat.div_add_mod p B
  rw [Nat.mul_comm] at hdm
  have hl : (s.take p).length = p := by simp; omega
  unfold mostM mxF
  simp only [hl]
  have g : ∀ k, k < p → (s.take p).getD k 0 = s.getD k 0 := fun k hk => by simp [List.getD_eq_getElem?_getD, List.getElem?_take, hk]
  have e1 : 0 < p % B → hat (unflat A B s) (p / B) (p % B - 1) = (s.take p).getD (p - 1) 0 := fun h0 => by
    rw [unflat_hat hi (by omega), g _ (by omega), show p / B * B + (p % B - 1) = p - 1 by omega]
  have e2 : 0 < p / B → hat (unflat A B s) (p / B - 1) (p % B) = (s.take p).getD (p - B) 0 := fun h0 => by
    obtain ⟨q, hq⟩ : ∃ q, p / B = q + 1 := ⟨p / B - 1, by omega⟩
    rw [hq, Nat.add_mul] at hdm
    rw [unflat_hat (by omega) (by omega), g _ (by omega), hq, Nat.add_sub_cancel, show q * B + p % B = p - B by omega]
  by_cases h1 : 0 < p % B <;> by_cases h2 : 0 < p / B <;> simp only [h1, h2, if_true, if_false] <;> simp only [e1, e2, h1, h2]

theorem findP_last {A B : Nat} {C : Int} {s : List Int} (hs : s.length = A * B) (hB : 0 < B) : ∀ n, n ≤ A * B → findP B C (unflat A B s) n = lastP (growP (mxF B C) s) 0 n
  | 0, _ => rfl
  | n + 1, hn => by
    unfold findP lastP
    have hi := div_lt_of hB (show n < A * B by omega)
    have hj := Nat.mod_lt n hB
    have hdm := Nat.div_add_mod n B
    rw [Nat.mul_comm] at hdm
    rw [findP_last hs hB n (by omega), most_mx hs hB (by omega), unflat_hat hi hj, hdm, Nat.zero_add]
    simp only [growP, decide_eq_true_eq]

theorem nextM_nxt {A B : Nat} {C : Int} {s : List Int} (hs : s.length = A * B) (hB : 0 < B) : nextM A B C (unflat A B s) = (nxtO (mxF B C) [] s).map (unflat A B) := by
  unfold nextM
  rw [findP_last hs hB _ (Nat.le_refl _), nxtO_last, List.nil_append, List.length_nil, hs]
  cases hl : lastP (growP (mxF B C) s) 0 (A * B) with
  | none => rfl
  | some p =>
    have hr := lastP_range hl
    simp only [Option.map_some, List.drop_zero, Option.some.injEq]
    have hi := div_lt_of hB (show p < A * B by omega)
    have hj := Nat.mod_lt p hB
    have hdm := Nat.div_add_mod p B
    rw [Nat.mul_comm] at hdm
    have hsz := unflat_sized (A := A) (B := B) hs
    have h1 := put2_sized hsz hi (j := p % B) (hat (unflat A B s) (p / B) (p % B) + 1)
    refine heap_ext (A := A) (B := B) (clr_sized h1 hB _ _ (by omega)) (unflat_sized (by rw [bump_length (by omega)]; exact hs)) fun i j hi' hj' => ?_
    have hpl := place_lt hi' hj'
    rw [clr_hat h1 hB _ _ (by omega) i j hi' hj', unflat_hat hi' hj', bump_getD (by omega) (by omega),
      put2_hat _ _ _ _ _ _ (by rw [hsz.1]; exact hi) (by rw [hsz.2 _ hi]; exact hj), unflat_hat hi hj, unflat_hat hi' hj', hdm]
    by_cases h2 : p + 1 ≤ i * B + j
    · rw [if_pos (by omega), if_neg (by omega), if_neg (by omega)]
    · rw [if_neg (by omega)]
      by_cases h3 : i * B + j = p
      · have : i = p / B ∧ j = p % B := by
          rw [← h3, Nat.add_comm, Nat.add_mul_div_right _ _ hB, Nat.add_mul_mod_self_right, Nat.div_eq_of_lt hj', Nat.mod_eq_of_lt hj']
          omega
        rw [if_pos this, if_neg (by omega), if_pos h3]
      · have : ¬ (i = p / B ∧ j = p % B) := fun ⟨e1, e2⟩ => h3 (by rw [e1, e2]; exact hdm)
        rw [if_neg this, if_pos (by omega)]

theorem enumO_split (mx : List Int → Int) : ∀ (m n : Nat) (pre : List Int), enumO mx (m + n) pre = (enumO mx m pre).flatMap fun s => (enumO mx n (pre ++ s)).map (s ++ ·)
  | 0, n, pre => by simp [enumO]
  | m + 1, n, pre => by
    rw [show m + 1 + n = (m + n) + 1 by omega, enumO, enumO, List.flatMap_assoc]
    congr 1
    funext x
    rw [enumO_split mx m n, List.flatMap_map, List.map_flatMap]
    congr 1
    funext s
    simp [List.map_map, Function.comp_def]

theorem enumO_mem {mx : List Int → Int} : ∀ (n : Nat) (pre s : List Int), s.length = n → (∀ q, q < n → 0 ≤ s.getD q 0 ∧ s.getD q 0 ≤ mx (pre ++ s.take q)) → s ∈ enumO mx n pre
  | 0, pre, s, h, _ => by rw [List.length_eq_zero_iff.1 h]; simp [enumO]
  | n + 1, pre, [], h, _ => by simp at h
  | n + 1, pre, x :: s, h, hg => by
    have h0 := hg 0 (by omega)
    simp at h0
    simp only [enumO, List.mem_flatMap, List.mem_range, List.mem_map]
    refine ⟨x.toNat, by omega, s, ?_, by rw [Int.toNat_of_nonneg h0.1]⟩
    refine enumO_mem n _ s (by simpa using h) fun q hq => ?_
    have := hg (q + 1) (by omega)
    rw [Int.toNat_of_nonneg h0.1]
    simpa using this

/-- All heaps of n rows under the row ab. -/
def allE (B : Nat) : Nat → List Int → List (List (List Int))
  | 0, _ => [[]]
  | n + 1, ab => (belowM B ab).flatMap fun r => (allE B n r).map (r.take B :: ·)

/-- ab is what stands above the next row, pre being the numbers of the rows before. -/
def Above (B : Nat) (C : Int) (i : Nat) (pre ab : List Int) : Prop := pre.length = i * B ∧ ab.length = 4 ∧ (∀ k, B ≤ k → ab.getD k 0 = 0) ∧ (∀ j, j < B → ab.getD j 0 ≤ C) ∧ (0 < i → ∀ j, j < B → ab.getD j 0 = pre.getD ((i - 1) * B + j) 0) ∧ (i = 0 → ∀ j, j < B → ab.getD j 0 = C)

theorem mostR_mx {B : Nat} {C : Int} {i j : Nat} {pre ab t : List Int} (ha : Above B C i pre ab) (ht : t.length = j) (hj : j < B) {r : List Int} (hr : 0 < j → r.getD (j - 1) 0 = t.getD (j - 1) 0) : mostR ab r j = mxF B C (pre ++ t) := by
  obtain ⟨h1, _, _, h2, h3, h4⟩ := ha
  have hB : 0 < B := by omega
  have hl : (pre ++ t).length = i * B + j := by simp [h1, ht]
  have e1 : (i * B + j) / B = i := by rw [Nat.add_comm, Nat.add_mul_div_right _ _ hB, Nat.div_eq_of_lt hj, Nat.zero_add]
  have e2 : (i * B + j) % B = j := by rw [Nat.add_comm, Nat.add_mul_mod_self_right, Nat.mod_eq_of_lt hj]
  unfold mostR mxF
  simp only [hl, e1, e2]
  have g1 : 0 < j → (pre ++ t).getD (i * B + j - 1) 0 = t.getD (j - 1) 0 := fun h0 => by
    rw [List.getD_eq_getElem?_getD, List.getElem?_append_right (by omega), h1, show i * B + j - 1 - i * B = j - 1 by omega, ← List.getD_eq_getElem?_getD]
  have g2 : 0 < i → (pre ++ t).getD (i * B + j - B) 0 = ab.getD j 0 := fun h0 => by
    rw [h3 h0 j hj]
    obtain ⟨q, hq⟩ : ∃ q, i = q + 1 := ⟨i - 1, by omega⟩
    subst hq
    rw [Nat.add_mul] at h1
    rw [Nat.add_mul, Nat.add_sub_cancel, List.getD_eq_getElem?_getD, List.getElem?_append_left (by omega), ← List.getD_eq_getElem?_getD, show q * B + 1 * B + j - B = q * B + j by omega]
  have hle := h2 j hj
  by_cases h0 : 0 < j <;> by_cases hi : 0 < i <;> simp only [h0, hi, if_true, if_false]
  · rw [g1 h0, g2 hi, hr h0]; omega
  · rw [g1 h0, hr h0, h4 (by omega) j hj]
  · rw [g2 hi]; omega
  · exact h4 (by omega) j hj

/-- The rows that can be under a row are the next B digits. -/
theorem bel_enum {B : Nat} {C : Int} {i : Nat} {pre ab : List Int} (ha : Above B C i pre ab) : ∀ (n j : Nat) (r : List Int), j + n = B → r.length = 4 → B ≤ 4 → (bel ab n j r) = (enumO (mxF B C) n (pre ++ r.take j)).map fun s => r.take j ++ s ++ r.drop (j + n)
  | 0, j, r, _, _, _ => by simp [bel, enumO]
  | n + 1, j, r, hj, hr, hB => by
    have hm : mostR ab r j = mxF B C (pre ++ r.take j) := mostR_mx ha (by simp; omega) (by omega) fun h0 => by simp [List.getD_eq_getElem?_getD, List.getElem?_take, show j - 1 < j by omega]
    rw [bel, enumO, hm, List.map_flatMap]
    congr 1
    funext x
    rw [bel_enum ha n (j + 1) (r.set j (x : Int)) (by omega) (by simpa using hr) hB, List.map_map]
    have e1 : (r.set j (x : Int)).take (j + 1) = r.take j ++ [(x : Int)] := by
      rw [List.take_succ_eq_append_getElem (by simp; omega), List.take_set_of_le (Nat.le_refl _), List.getElem_set_self]
    have e2 : (r.set j (x : Int)).drop (j + 1 + n) = r.drop (j + 1 + n) := List.drop_set_of_lt (by omega)
    rw [e1, e2, ← List.append_assoc]
    refine List.map_congr_left fun s _ => ?_
    simp [List.append_assoc, Nat.add_assoc, Nat.add_comm 1 n]

theorem below_enum {B : Nat} {C : Int} {i : Nat} {pre ab : List Int} (ha : Above B C i pre ab) (hB : B ≤ 4) : belowM B ab = (enumO (mxF B C) B pre).map fun s => s ++ List.replicate (4 - B) 0 := by
  unfold belowM
  rw [bel_enum ha B 0 _ (by omega) rfl hB]
  simp only [List.take_zero, List.append_nil, List.nil_append, Nat.zero_add]
  congr 1
  funext s
  match B, hB with
  | 0, _ => rfl
  | 1, _ => rfl
  | 2, _ => rfl
  | 3, _ => rfl
  | 4, _ => rfl

theorem above_next {B : Nat} {C : Int} {i : Nat} {pre ab s : List Int} (hB : B ≤ 4) (ha : Above B C i pre ab) (hs : s ∈ enumO (mxF B C) B pre) : Above B C (i + 1) (pre ++ s) (s ++ List.replicate (4 - B) 0) := by
  obtain ⟨hl, hg⟩ := enumO_good B pre s hs
  have hget : ∀ j, j < B → (s ++ List.replicate (4 - B) (0 : Int)).getD j 0 = s.getD j 0 := fun j hj => by
    simp only [List.getD_eq_getElem?_getD]; rw [List.getElem?_append_left (by omega)]
  refine ⟨by simp [ha.1, hl, Nat.add_mul], by simp [hl]; omega, fun k hk => ?_, fun j hj => ?_, fun _ j hj => ?_, fun h => by omega⟩
  · rw [List.getD_eq_getElem?_getD, List.getElem?_append_right (by omega), List.getElem?_replicate]
    split <;> rfl
  · rw [hget j hj]
    refine Int.le_trans (hg j hj).2 ?_
    unfold mxF
    dsimp only
    split <;> split <;> omega
  · rw [hget j hj, Nat.add_sub_cancel, List.getD_eq_getElem?_getD, List.getD_eq_getElem?_getD, List.getElem?_append_right (by rw [ha.1]; omega), ha.1, show i * B + j - i * B = j by omega]

theorem unflat_cons {n B : Nat} {s t : List Int} (hs : s.length = B) : unflat (n + 1) B (s ++ t) = s :: unflat n B t := by
  unfold unflat
  rw [List.range_succ_eq_map, List.map_cons, List.map_map]
  congr 1
  · simp [List.take_of_length_le, hs]
  · refine List.map_congr_left fun i _ => ?_
    simp only [Function.comp_def]
    rw [List.drop_append, List.drop_eq_nil_of_le (by rw [hs, Nat.succ_mul]; omega), List.nil_append, hs, Nat.succ_mul, Nat.add_sub_cancel]

theorem flatMap_congr' {α β : Type} {f g : α → List β} : ∀ {l : List α}, (∀ x ∈ l, f x = g x) → l.flatMap f = l.flatMap g
  | [], _ => rfl
  | x :: l, h => by rw [List.flatMap_cons, List.flatMap_cons, h x (by simp), flatMap_congr' fun y hy => h y (by simp [hy])]

theorem allE_enum {B : Nat} {C : Int} (hB : B ≤ 4) : ∀ (n i : Nat) (pre ab : List Int), Above B C i pre ab → allE B n ab = (enumO (mxF B C) (n * B) pre).map (unflat n B)
  | 0, i, pre, ab, _ => by simp [allE, enumO, unflat]
  | n + 1, i, pre, ab, ha => by
    have e : (n + 1) * B = B + n * B := by rw [Nat.add_mul]; omega
    rw [allE, below_enum ha hB, e, enumO_split, List.flatMap_map, List.map_flatMap]
    refine flatMap_congr' fun s hs => ?_
    have hl := (enumO_good B pre s hs).1
    rw [allE_enum hB n (i + 1) _ _ (above_next hB ha hs), List.map_map, List.map_map]
    refine List.map_congr_left fun t _ => ?_
    simp only [Function.comp_def]
    rw [unflat_cons hl, List.take_append_of_le_length (by omega), List.take_of_length_le (by omega)]

end Go.Hp

/- What Next, counting, ranking and being a heap are in the list of all heaps. Plain; no program. -/
namespace Go.Proofs.Ytaephdjmpmbfpaa
open Go.Hp

theorem above_top {B : Nat} {C : Int} (hB : B ≤ 4) : Above B C 0 [] (topRow B C) := by
  have g : ∀ j, j < B → (topRow B C).getD j 0 = C := fun j hj => by
    unfold topRow
    rw [List.getD_eq_getElem?_getD, List.getElem?_append_left (by simpa using hj), List.getElem?_replicate, if_pos hj]; rfl
  refine ⟨by simp, topRow_length hB, fun k hk => ?_, fun j hj => by rw [g j hj]; exact Int.le_refl _, fun h => by omega, fun _ => g⟩
  unfold topRow
  rw [List.getD_eq_getElem?_getD, List.getElem?_append_right (by simpa using hk), List.getElem?_replicate]
  split <;> rfl

def heaps (A B : Nat) (C : Int) : List (List (List Int)) := allE B A (topRow B C)

theorem heaps_enum {A B : Nat} {C : Int} (hB : B ≤ 4) : heaps A B C = (enumO (mxF B C) (A * B) []).map (unflat A B) := allE_enum hB A 0 [] _ (above_top hB)

theorem unflat_zeros (A B : Nat) : unflat A B (List.replicate (A * B) 0) = zeros A B :=
  heap_ext (unflat_sized (by simp)) (zeros_sized A B) fun i j hi hj => by
    rw [unflat_hat hi hj, zeros_hat, List.getD_eq_getElem?_getD, List.getElem?_replicate]
    split <;> rfl

theorem iterN_heaps {A B : Nat} {C : Int} (hB0 : 0 < B) (hB : B ≤ 4) (hC : 0 ≤ C) : ∀ k, iterN A B C k = (heaps A B C)[k]? := by
  have H : ∀ pre : List Int, (∀ x ∈ pre, 0 ≤ x) → 0 ≤ mxF B C pre := fun pre h => mxF_nonneg hC pre h
  have h0 := enumO_head H (A * B) [] (by simp)
  have hch := enumO_chain H (A * B) [] (by simp)
  rw [heaps_enum hB]
  intro k
  induction k with
  | zero => rw [List.getElem?_map, h0]; simp [iterN, unflat_zeros]
  | succ k ih =>
    rw [iterN, ih, List.getElem?_map, List.getElem?_map]
    cases hk : (enumO (mxF B C) (A * B) [])[k]? with
    | none =>
      have := List.getElem?_eq_none_iff.1 hk
      rw [List.getElem?_eq_none (by omega)]; rfl
    | some s =>
      have hl := (enumO_good (A * B) [] s (List.mem_of_getElem? hk)).1
      have hc := hch k s hk
      have hlt := (List.getElem?_eq_some_iff.1 hk).1
      simp only [Option.map_some, Option.bind_some]
      rw [nextM_nxt hl hB0, hc]
      by_cases he : k + 1 = (enumO (mxF B C) (A * B) []).length
      · rw [if_pos he, List.getElem?_eq_none (by omega)]
      · rw [if_neg he]

theorem cast_sum {α : Type} (f : α → Nat) : ∀ l : List α, (((l.map f).sum : Nat) : Int) = (l.map fun x => (f x : Int)).sum
  | [] => rfl
  | x :: l => by simp [cast_sum f l]

theorem ways_length (B : Nat) : ∀ (n : Nat) (ab : List Int), waysM B n ab = (allE B n ab).length
  | 0, ab => rfl
  | n + 1, ab => by
    rw [waysM, allE, List.length_flatMap, cast_sum]
    congr 1
    refine List.map_congr_left fun r _ => ?_
    rw [ways_length B n r, List.length_map]

theorem cmpI_neg (x y : Int) : cmpI x y = - cmpI y x := by unfold cmpI; split <;> split <;> (try split) <;> omega
theorem cmpL_neg : ∀ a b : List Int, cmpL a b = - cmpL b a
  | [], [] => rfl
  | [], _ :: _ => rfl
  | _ :: _, [] => rfl
  | x :: a, y :: b => by
    have h1 := cmpL_neg a b
    have h2 := cmpI_neg x y
    simp only [cmpL]
    split <;> split <;> omega
theorem cmpL_self : ∀ a : List Int, cmpL a a = 0
  | [] => rfl
  | x :: a => by simp [cmpL, cmpI, cmpL_self a]

theorem enumO_sorted (mx : List Int → Int) : ∀ (n : Nat) (pre : List Int), (enumO mx n pre).Pairwise fun s t => ∀ z, cmpL (s ++ z) (t ++ z) < 0
  | 0, pre => by simp [enumO]
  | n + 1, pre => by
    rw [enumO, List.pairwise_flatMap]
    refine ⟨fun x _ => ?_, ?_⟩
    · rw [List.pairwise_map]
      refine (enumO_sorted mx n _).imp fun {s t} h z => ?_
      have := h z
      simpa [cmpL, cmpI] using this
    · refine List.pairwise_lt_range.imp fun {x y} hxy s hs t ht z => ?_
      simp only [List.mem_map] at hs ht
      obtain ⟨s, _, rfl⟩ := hs
      obtain ⟨t, _, rfl⟩ := ht
      have : cmpI (x : Int) (y : Int) = -1 := by simp [cmpI]; omega
      simp [cmpL, this]

theorem below_sorted {B : Nat} {C : Int} {i : Nat} {pre ab : List Int} (ha : Above B C i pre ab) (hB : B ≤ 4) : (belowM B ab).Pairwise fun s t => cmpL s t < 0 := by
  rw [below_enum ha hB, List.pairwise_map]
  exact (enumO_sorted _ B pre).imp fun h => h _

theorem below_mem {B : Nat} {C : Int} {i : Nat} {pre ab r : List Int} (ha : Above B C i pre ab) (hB : B ≤ 4) (hr : r ∈ belowM B ab) : row4 (r.take B) = r ∧ (r.take B).length = B ∧ Above B C (i + 1) (pre ++ r.take B) r := by
  rw [below_enum ha hB] at hr
  obtain ⟨s, hs, rfl⟩ := List.mem_map.1 hr
  have hl := (enumO_good B pre s hs).1
  have e : (s ++ List.replicate (4 - B) (0 : Int)).take B = s := by rw [List.take_append_of_le_length (by omega), List.take_of_length_le (by omega)]
  rw [e]
  exact ⟨by rw [row4, hl], hl, above_next hB ha hs⟩

theorem flatMap_get {α β : Type} {f : α → List β} : ∀ (l : List α) (k : Nat) (b : β), (l.flatMap f)[k]? = some b → ∃ l1 a l2 k', l = l1 ++ a :: l2 ∧ (f a)[k']? = some b ∧ k = (l1.map fun x => (f x).length).sum + k'
  | [], k, b, h => by simp at h
  | a :: l, k, b, h => by
    rw [List.flatMap_cons] at h
    by_cases hk : k < (f a).length
    · rw [List.getElem?_append_left hk] at h
      exact ⟨[], a, l, k, rfl, h, by simp⟩
    · rw [List.getElem?_append_right (by omega)] at h
      obtain ⟨l1, a', l2, k', h1, h2, h3⟩ := flatMap_get l _ b h
      exact ⟨a :: l1, a', l2, k', by rw [h1]; rfl, h2, by simp only [List.map_cons, List.sum_cons]; omega⟩

def rankR (B : Nat) : Nat → List Int → List (List Int) → Int
  | n + 1, ab, r :: h => rankRow B n ab (row4 r) + rankR B n (row4 r) h
  | _, _, _ => 0

theorem rankRow_split {B n : Nat} {ab : List Int} {l1 l2 : List (List Int)} {a : List Int} (e : belowM B ab = l1 ++ a :: l2) (hs : (belowM B ab).Pairwise fun s t => cmpL s t < 0) : rankRow B n ab a = (l1.map (waysM B n)).sum := by
  unfold rankRow
  rw [e] at hs ⊢
  rw [List.pairwise_append, List.pairwise_cons] at hs
  obtain ⟨_, ⟨h2, _⟩, h1⟩ := hs
  rw [List.map_append, List.sum_append, List.map_cons, List.sum_cons]
  have e1 : l1.map (lessF B n a) = l1.map (waysM B n) := List.map_congr_left fun r hr => by
    unfold lessF; rw [if_pos (h1 r hr a (by simp))]
  have e2 : (l2.map (lessF B n a)).sum = 0 := by
    have : ∀ r ∈ l2, lessF B n a r = 0 := fun r hr => by
      have := h2 r hr
      have h3 := cmpL_neg a r
      unfold lessF; rw [if_neg (by omega)]
    have key : ∀ l : List (List Int), (∀ r ∈ l, lessF B n a r = 0) → (l.map (lessF B n a)).sum = 0 := by
      intro l
      induction l with
      | nil => intro _; rfl
      | cons x l ih =>
        intro h
        simp only [List.map_cons, List.sum_cons, h x (by simp), ih fun r hr => h r (by simp [hr])]
        rfl
    exact key l2 this
  have e3 : lessF B n a a = 0 := by unfold lessF; rw [cmpL_self, if_neg (by omega)]
  rw [e1, e2, e3]; omega

theorem rank_index {B : Nat} {C : Int} (hB : B ≤ 4) : ∀ (n i : Nat) (pre ab : List Int) (k : Nat) (h : List (List Int)), Above B C i pre ab → (allE B n ab)[k]? = some h → rankR B n ab h = k
  | 0, i, pre, ab, k, h, _, hk => by
    cases k with
    | zero => simp [rankR]
    | succ k => simp [allE] at hk
  | n + 1, i, pre, ab, k, h, ha, hk => by
    rw [allE] at hk
    obtain ⟨l1, a, l2, k', h1, h2, h3⟩ := flatMap_get _ _ _ hk
    rw [List.getElem?_map] at h2
    obtain ⟨t, ht, rfl⟩ := Option.map_eq_some_iff.1 h2
    have hm : a ∈ belowM B ab := by rw [h1]; simp
    obtain ⟨g1, g2, g3⟩ := below_mem ha hB hm
    rw [rankR, g1, rankRow_split h1 (below_sorted ha hB), rank_index hB n _ _ _ _ _ g3 ht, h3]
    simp only [List.length_map]
    rw [Int.natCast_add, cast_sum]
    congr 2
    exact List.map_congr_left fun r _ => ways_length B n r

theorem sumTo_front (f : Nat → Int) : ∀ n, sumTo f (n + 1) = f 0 + sumTo (fun i => f (i + 1)) n
  | 0 => by simp [sumTo]
  | n + 1 => by rw [sumTo, sumTo_front f n, sumTo]; omega

def lastG (ab : List Int) (h : List (List Int)) (i : Nat) : List Int := if i = 0 then ab else row4 (h.getD (i - 1) [])

theorem rankR_sum (B : Nat) : ∀ (n : Nat) (ab : List Int) (h : List (List Int)), h.length = n → sumTo (fun i => rankRow B (n - 1 - i) (lastG ab h i) (row4 (h.getD i []))) n = rankR B n ab h
  | 0, ab, h, _ => by simp [sumTo, rankR]
  | n + 1, ab, [], hl => by simp at hl
  | n + 1, ab, r :: h, hl => by
    rw [sumTo_front, rankR, ← rankR_sum B n (row4 r) h (by simpa using hl)]
    have e : (fun i => rankRow B (n + 1 - 1 - (i + 1)) (lastG ab (r :: h) (i + 1)) (row4 ((r :: h).getD (i + 1) []))) = fun i => rankRow B (n - 1 - i) (lastG (row4 r) h i) (row4 (h.getD i [])) := by
      funext i
      have e1 : n + 1 - 1 - (i + 1) = n - 1 - i := by omega
      have e2 : lastG ab (r :: h) (i + 1) = lastG (row4 r) h i := by
        cases i <;> simp [lastG]
      rw [e1, e2]; simp
    rw [e]
    simp [lastG]

theorem rank_heaps {A B : Nat} {C : Int} (hB : B ≤ 4) {k : Nat} {h : List (List Int)} (hk : (heaps A B C)[k]? = some h) : rankM A B C h A = k := by
  have hl : h.length = A := by
    rw [heaps_enum hB, List.getElem?_map] at hk
    obtain ⟨s, _, rfl⟩ := Option.map_eq_some_iff.1 hk
    simp [unflat]
  have e : rankM A B C h A = sumTo (fun i => rankRow B (A - 1 - i) (lastG (topRow B C) h i) (row4 (h.getD i []))) A := rfl
  rw [e, rankR_sum B A _ h hl]
  exact rank_index hB A 0 [] _ k h (above_top hB) hk

/-- The numbers of a heap in reading order. -/
def flat (A B : Nat) (h : List (List Int)) : List Int := (List.range (A * B)).map fun p => hat h (p / B) (p % B)

theorem flat_getD {A B p : Nat} {h : List (List Int)} (hp : p < A * B) : (flat A B h).getD p 0 = hat h (p / B) (p % B) := by
  simp [flat, List.getD_eq_getElem?_getD, hp]

theorem unflat_flat {A B : Nat} {h : List (List Int)} (hs : Sized A B h) : unflat A B (flat A B h) = h :=
  heap_ext (unflat_sized (by simp [flat])) hs fun i j hi hj => by
    rw [unflat_hat hi hj, flat_getD (place_lt hi hj), Nat.add_comm, Nat.add_mul_div_right _ _ (by omega), Nat.add_mul_mod_self_right, Nat.div_eq_of_lt hj, Nat.mod_eq_of_lt hj, Nat.zero_add]

theorem heapOk_mem {A B : Nat} {C : Int} {h : List (List Int)} (hB0 : 0 < B) (hB : B ≤ 4) : heapOk A B C h = true ↔ h ∈ heaps A B C := by
  rw [heaps_enum hB, List.mem_map]
  constructor
  · intro e
    simp only [heapOk, Bool.and_eq_true, decide_eq_true_eq, List.all_eq_true, List.mem_range] at e
    obtain ⟨e1, e2⟩ := e
    have hs : Sized A B h := ⟨by omega, fun i hi => by have := rowOk_len (e2 i (by omega)); omega⟩
    refine ⟨flat A B h, enumO_mem _ _ _ (by simp [flat]) fun q hq => ?_, unflat_flat hs⟩
    have hi := div_lt_of hB0 hq
    have hj := Nat.mod_lt q hB0
    have hr := e2 (q / B) (by omega)
    simp only [rowOk, Bool.and_eq_true, decide_eq_true_eq, List.all_eq_true, List.mem_range] at hr
    have ho := hr.2 (q % B) (by rw [hs.2 _ hi]; exact hj)
    simp only [okAt, decide_eq_true_eq] at ho
    rw [flat_getD hq, List.nil_append, ← most_mx (s := flat A B h) (by simp [flat]) hB0 hq, unflat_flat hs]
    exact ho
  · rintro ⟨s, hs, rfl⟩
    obtain ⟨hl, hg⟩ := enumO_good _ _ s hs
    have hsz := unflat_sized (A := A) (B := B) hl
    refine heapOk_true (by rw [hsz.1]) fun i hi => ?_
    have hi' : i < A := by rw [← hsz.1]; exact hi
    refine rowOk_true (by rw [hsz.2 i hi']) fun j hj => ?_
    have hj' : j < B := by rw [← hsz.2 i hi']; exact hj
    have hp := place_lt hi' hj'
    have := hg _ hp
    have hm := most_mx (C := C) hl hB0 hp
    rw [Nat.add_comm (i * B) j, Nat.add_mul_div_right _ _ hB0, Nat.add_mul_mod_self_right, Nat.div_eq_of_lt hj', Nat.mod_eq_of_lt hj', Nat.zero_add, Nat.add_comm j] at hm
    simp only [okAt, decide_eq_true_eq]
    rw [hm, unflat_hat hi' hj']
    simpa using this

theorem heaps_sized {A B : Nat} {C : Int} (hB : B ≤ 4) {h : List (List Int)} (hm : h ∈ heaps A B C) : Sized A B h := by
  rw [heaps_enum hB, List.mem_map] at hm
  obtain ⟨s, hs, rfl⟩ := hm
  exact unflat_sized (enumO_good _ _ s hs).1

end Go.Proofs.Ytaephdjmpmbfpaa

/- Lifted texts, printed by program (gen.py): what each function's code asks. The ties are by the kernel. -/
namespace Go.Proofs.Ytaephdjmpmbfpaa
open Go.Lf Go.RowKit

def S19 (t0 t1 : Value) (w : World) (R : Ending → World → Prop) : Prop :=
  boxW 25 t0 w fun t2 w =>
  ldN 3 w t2 fun t13 =>
  callW Try.prog (.func (.func 58) #[] #[]) [t13] w fun t14 w =>
  unQ .not t14 fun t15 =>
  condW t15 (
    R (.returned (.tuple #[(.slice none 0 0), (.int .i64 2)])) w
  ) (
    Drew w fun w =>
    Join (fun (k_2 : Value → Value → World → Prop) =>
      ldN 3 w t2 fun t16 =>
      ldN 3 w t2 fun t18 =>
      And (
        callW Try.prog (.func (.func 52) #[] #[]) [t16] w <| keepB w fun t17 w =>
        And (
          callW Try.prog (.func (.func 53) #[] #[]) [t18] w <| keepB w fun t19 w =>
          And (
            boxW 77 (.agg #[(.int .i64 0), (.int .i64 0), (.int .i64 0), (.map none)]) w <| keepB w fun t6_2 w =>
            boxW 80 (.agg #[(.int .i64 0), (.int .i64 0), (.int .i64 0), (.int .i64 0)]) w <| keepB w fun t7_2 w =>
            stW Try.prog 77 t6_2 t17 w fun w =>
            stW Try.prog 80 t7_2 t19 w fun w =>
            k_2 t6_2 t7_2 w
          ) <|
          And (
            boxW 80 (.agg #[(.int .i64 0), (.int .i64 0), (.int .i64 0), (.int .i64 0)]) w <| keepB w fun t7_3 w =>
            boxW 77 (.agg #[(.int .i64 0), (.int .i64 0), (.int .i64 0), (.map none)]) w <| keepB w fun t6_3 w =>
            stW Try.prog 77 t6_3 t17 w fun w =>
            stW Try.prog 80 t7_3 t19 w fun w =>
            k_2 t6_3 t7_3 w
          ) <|
          True
        ) <|
        And (
          boxW 77 (.agg #[(.int .i64 0), (.int .i64 0), (.int .i64 0), (.map none)]) w <| keepB w fun t6_4 w =>
          And (
            callW Try.prog (.func (.func 53) #[] #[]) [t18] w <| keepB w fun t19_2 w =>
            boxW 80 (.agg #[(.int .i64 0), (.int .i64 0), (.int .i64 0), (.int .i64 0)]) w <| keepB w fun t7_4 w =>
            stW Try.prog 77 t6_4 t17 w fun w =>
            stW Try.prog 80 t7_4 t19_2 w fun w =>
            k_2 t6_4 t7_4 w
          ) <|
          And (
            boxW 80 (.agg #[(.int .i64 0), (.int .i64 0), (.int .i64 0), (.int .i64 0)]) w <| keepB w fun t7_5 w =>
            callW Try.prog (.func (.func 53) #[] #[]) [t18] w <| keepB w fun t19_3 w =>
            stW Try.prog 77 t6_4 t17 w fun w =>
            stW Try.prog 80 t7_5 t19_3 w fun w =>
            k_2 t6_4 t7_5 w
          ) <|
          True
        ) <|
        And (
          boxW 80 (.agg #[(.int .i64 0), (.int .i64 0), (.int .i64 0), (.int .i64 0)]) w <| keepB w fun t7_6 w =>
          And (
            callW Try.prog (.func (.func 53) #[] #[]) [t18] w <| keepB w fun t19_4 w =>
            boxW 77 (.agg #[(.int .i64 0), (.int .i64 0), (.int .i64 0), (.map none)]) w <| keepB w fun t6_5 w =>
            stW Try.prog 77 t6_5 t17 w fun w =>
            stW Try.prog 80 t7_6 t19_4 w fun w =>
            k_2 t6_5 t7_6 w
          ) <|
          And (
            boxW 77 (.agg #[(.int .i64 0), (.int .i64 0), (.int .i64 0), (.map none)]) w <| keepB w fun t6_6 w =>
            callW Try.prog (.func (.func 53) #[] #[]) [t18] w <| keepB w fun t19_5 w =>
            stW Try.prog 77 t6_6 t17 w fun w =>
            stW Try.prog 80 t7_6 t19_5 w fun w =>
            k_2 t6_6 t7_6 w
          ) <|
          True
        ) <|
        True
      ) <|
      And (
        boxW 77 (.agg #[(.int .i64 0), (.int .i64 0), (.int .i64 0), (.map none)]) w <| keepB w fun t6_7 w =>
        And (
          callW Try.prog (.func (.func 52) #[] #[]) [t16] w <| keepB w fun t17_2 w =>
          And (
            callW Try.prog (.func (.func 53) #[] #[]) [t18] w <| keepB w fun t19_6 w =>
            boxW 80 (.agg #[(.int .i64 0), (.int .i64 0), (.int .i64 0), (.int .i64 0)]) w <| keepB w fun t7_7 w =>
            stW Try.prog 77 t6_7 t17_2 w fun w =>
            stW Try.prog 80 t7_7 t19_6 w fun w =>
            k_2 t6_7 t7_7 w
          ) <|
          And (
            boxW 80 (.agg #[(.int .i64 0), (.int .i64 0), (.int .i64 0), (.int .i64 0)]) w <| keepB w fun t7_8 w =>
            callW Try.prog (.func (.func 53) #[] #[]) [t18] w <| keepB w fun t19_7 w =>
            stW Try.prog 77 t6_7 t17_2 w fun w =>
            stW Try.prog 80 t7_8 t19_7 w fun w =>
            k_2 t6_7 t7_8 w
          ) <|
          True
        ) <|
        And (
          boxW 80 (.agg #[(.int .i64 0), (.int .i64 0), (.int .i64 0), (.int .i64 0)]) w <| keepB w fun t7_9 w =>
          callW Try.prog (.func (.func 52) #[] #[]) [t16] w <| keepB w fun t17_3 w =>
          callW Try.prog (.func (.func 53) #[] #[]) [t18] w <| keepB w fun t19_8 w =>
          stW Try.prog 77 t6_7 t17_3 w fun w =>
          stW Try.prog 80 t7_9 t19_8 w fun w =>
          k_2 t6_7 t7_9 w
        ) <|
        True
      ) <|
      And (
        boxW 80 (.agg #[(.int .i64 0), (.int .i64 0), (.int .i64 0), (.int .i64 0)]) w <| keepB w fun t7_10 w =>
        And (
          callW Try.prog (.func (.func 52) #[] #[]) [t16] w <| keepB w fun t17_4 w =>
          And (
            callW Try.prog (.func (.func 53) #[] #[]) [t18] w <| keepB w fun t19_9 w =>
            boxW 77 (.agg #[(.int .i64 0), (.int .i64 0), (.int .i64 0), (.map none)]) w <| keepB w fun t6_8 w =>
            stW Try.prog 77 t6_8 t17_4 w fun w =>
            stW Try.prog 80 t7_10 t19_9 w fun w =>
            k_2 t6_8 t7_10 w
          ) <|
          And (
            boxW 77 (.agg #[(.int .i64 0), (.int .i64 0), (.int .i64 0), (.map none)]) w <| keepB w fun t6_9 w =>
            callW Try.prog (.func (.func 53) #[] #[]) [t18] w <| keepB w fun t19_10 w =>
            stW Try.prog 77 t6_9 t17_4 w fun w =>
            stW Try.prog 80 t7_10 t19_10 w fun w =>
            k_2 t6_9 t7_10 w
          ) <|
          True
        ) <|
        And (
          boxW 77 (.agg #[(.int .i64 0), (.int .i64 0), (.int .i64 0), (.map none)]) w <| keepB w fun t6_10 w =>
          callW Try.prog (.func (.func 52) #[] #[]) [t16] w <| keepB w fun t17_5 w =>
          callW Try.prog (.func (.func 53) #[] #[]) [t18] w <| keepB w fun t19_11 w =>
          stW Try.prog 77 t6_10 t17_5 w fun w =>
          stW Try.prog 80 t7_10 t19_11 w fun w =>
          k_2 t6_10 t7_10 w
        ) <|
        True
      ) <|
      True
    ) fun t6 t7 w =>
    binQ Try.prog w .lss 3 true t1 (.int .i64 0) fun t21 =>
    gd t21 false (fun k => k t1 w) w fun t23 w =>
    gd t21 false (fun k => ldN 4 w t6 fun v => k v w) w fun t24 w =>
    gd t21 false (fun k => fa1 t2 0 fun v => k v w) w fun t25 w =>
    gd t21 false (fun k => ld1 w t25 fun v => k v w) w fun t26 w =>
    gd t21 false (fun k => ldN 4 w t7 fun v => k v w) w fun t27 w =>
    gd t21 false (fun k => bdQ Try.prog 88 [(0, t26), (1, t27)] fun v => k v w) w fun t28 w =>
    gd t21 false (fun k => callW Try.prog (.func (.func 57) #[] #[]) [t24, t28] w k) w fun t29 w =>
    gd t21 false (fun k => binQ Try.prog w .geq 3 false t23 t29 fun v => k v w) w fun t30 w =>
    pickQ t21 (.bool true) t30 fun t31 =>
    condW t31 (
      R (.returned (.tuple #[(.slice none 0 0), (.int .i64 4)])) w
    ) (
      fa1 t2 0 fun t32 =>
      ld1 w t32 fun t33 =>
      Loop3 t1 (.slice none 0 0) (.int .i64 0) w fun _ t1_2 t8 t34 w next =>
        binQ Try.prog w .lss 3 false t34 t33 fun t35 =>
        condW t35 (
          ldN 3 w t2 fun t37 =>
          ldN 4 w t7 fun t38 =>
          callW Try.prog (.func (.func 55) #[] #[]) [t37, t38] w fun t39 w =>
          ln1 t39 fun t40 =>
          Join (fun (k_3 : Value → Value → World → Prop) =>
            Loop3 t1_2 t8 (.int .i64 0) w fun _ t1_4 t8_3 t41 w next_2 =>
              binQ Try.prog w .lss 3 false t41 t40 fun t42 =>
              condW t42 (
                iaS 4 t39 t41 fun t43 =>
                ldN 4 w t43 fun t44 =>
                boxW 80 (.agg #[(.int .i64 0), (.int .i64 0), (.int .i64 0), (.int .i64 0)]) w fun t11 w =>
                stW Try.prog 80 t11 t44 w fun w =>
                ldN 4 w t6 fun t45 =>
                fa1 t2 0 fun t46 =>
                ld1 w t46 fun t47 =>
                binQ Try.prog w .sub 3 true t47 (.int .i64 1) fun t48 =>
                binQ Try.prog w .sub 3 false t48 t34 fun t50 =>
                ldN 4 w t11 fun t51 =>
                bdQ Try.prog 88 [(0, t50), (1, t51)] fun t52 =>
                callW Try.prog (.func (.func 57) #[] #[]) [t45, t52] w fun t53 w =>
                binQ Try.prog w .lss 3 false t1_4 t53 fun t56 =>
                condW t56 (
                  Drew w fun w =>
                  ∃ X : Nat → Prop,
                  takeX X w (fun w k => k t8_3) fun t57 =>
                  takeX X w (fun w k => fa1 t2 1 k) fun t58 =>
                  takeX X w (fun w k => ld1 w t58 k) fun t59 =>
                  takeX X w (fun w k => slA 4 1 t11 none (some t59) k) fun t60 =>
                  takeX X w (fun w k => ldN 4 w t11 k) fun t64 =>
                  callW Try.prog (.func (.func 59) #[] #[]) [t60] w <| keepX X w fun t61 w =>
                  bsW Try.prog 26 1 [(0, t61)] w <| keepX X w fun t62 w =>
                  semW Try.prog (apS [26, 26] 26 [t57, t62]) w <| keepX X w fun t63 w =>
                  takeX X w (fun w k => k t63) fun t8_4 =>
                  stW Try.prog 80 t7 t64 w fun w =>
                  k_3 t1_4 t8_4 w
                ) (
                  binQ Try.prog w .sub 3 false t1_4 t53 fun t67 =>
                  binQ Try.prog w .add 3 true t41 (.int .i64 1) fun t68 =>
                  next_2 t67 t8_3 t68 w
                )
              ) (
                k_3 t1_4 t8_3 w
              )
          ) fun t1_3 t8_2 w =>
          binQ Try.prog w .add 3 true t34 (.int .i64 1) fun t69_2 =>
          next t1_3 t8_2 t69_2 w
        ) (
          R (.returned (.tuple #[t8, (.int .i64 0)])) w
        )
    )
  )

def A19 : Ann where
  live := fun
    | 0 => [1, 8, 34]
    | 2 => [1, 8, 41]
    | _ => []
  wr := fun
    | 0 => fun i => Nat.beq i 1 || (Nat.ble 8 i && Nat.ble i 9) || (Nat.ble 11 i && Nat.ble i 12) || (Nat.ble 34 i && Nat.ble i 69)
    | 2 => fun i => Nat.beq i 1 || Nat.beq i 8 || (Nat.ble 11 i && Nat.ble i 12) || (Nat.ble 41 i && Nat.ble i 68)
    | _ => fun _ => false
  sched := fun
    | 3 => (.take 0 (.take 2 (.alt 1 (.alt 3 (.alt 4 (.eff 5 (.bar 6 (.bar 7 .done))) (.alt 5 (.eff 4 (.bar 6 (.bar 7 .done))) .nomore)) (.alt 4 (.alt 3 (.eff 5 (.bar 6 (.bar 7 .done))) (.alt 5 (.eff 3 (.bar 6 (.bar 7 .done))) .nomore)) (.alt 5 (.alt 3 (.eff 4 (.bar 6 (.bar 7 .done))) (.alt 4 (.eff 3 (.bar 6 (.bar 7 .done))) .nomore)) .nomore))) (.alt 4 (.alt 1 (.alt 3 (.eff 5 (.bar 6 (.bar 7 .done))) (.alt 5 (.eff 3 (.bar 6 (.bar 7 .done))) .nomore)) (.alt 5 (.eff 1 (.eff 3 (.bar 6 (.bar 7 .done)))) .nomore)) (.alt 5 (.alt 1 (.alt 3 (.eff 4 (.bar 6 (.bar 7 .done))) (.alt 4 (.eff 3 (.bar 6 (.bar 7 .done))) .nomore)) (.alt 4 (.eff 1 (.eff 3 (.bar 6 (.bar 7 .done)))) .nomore)) .nomore)))))
    | 15 => (.cls (.take 0 (.take 1 (.take 2 (.take 3 (.take 7 (.eff 4 (.eff 5 (.eff 6 (.take 8 (.bar 9 .done)))))))))))
    | _ => .done

set_option maxRecDepth 100000 in
theorem ok19 : (codeOk Try.f19.ntmps A19 (Try.f19.body.getD .skip) 0 && Nat.ble 2 Try.f19.ntmps) = true := by kernel_rfl
set_option maxRecDepth 100000 in
theorem lift19 {t0 t1 : Value} {w : World} {R : Ending → World → Prop} (h : S19 t0 t1 w R) : Calls Try.prog 19 #[t0, t1] w R :=
  calls_of_cw (fn := Try.f19) (c := Try.f19.body.getD .skip) A19 mixes Try.func19 (by kernel_rfl) ok19
    ((by kernel_rfl : (S19 t0 t1 w R) = cw Try.prog A19 (Try.f19.body.getD .skip) 0 (bodyQ Try.prog Try.f19 R) (frOf #[t0, t1]) w).mp h)

def S59 (t0 : Value) (w : World) (R : Ending → World → Prop) : Prop :=
  binQ Try.prog w .eql 36 true t0 (.slice none 0 0) fun t4 =>
  condW t4 (
    R (.returned (.slice none 0 0)) w
  ) (
    bsW Try.prog 36 0 [] w fun t5 w =>
    semW Try.prog (apS [36, 36] 36 [t5, t0]) w fun t7 w =>
    R (.returned t7) w
  )

def A59 : Ann where
  live := fun _ => []
  wr := fun _ _ => false
  sched := fun _ => .done

set_option maxRecDepth 100000 in
theorem ok59 : (codeOk Try.f59.ntmps A59 (Try.f59.body.getD .skip) 0 && Nat.ble 1 Try.f59.ntmps) = true := by kernel_rfl
set_option maxRecDepth 100000 in
theorem lift59 {t0 : Value} {w : World} {R : Ending → World → Prop} (h : S59 t0 w R) : Calls Try.prog 59 #[t0] w R :=
  calls_of_cw (fn := Try.f59) (c := Try.f59.body.getD .skip) A59 mixes Try.func59 (by kernel_rfl) ok59
    ((by kernel_rfl : (S59 t0 w R) = cw Try.prog A59 (Try.f59.body.getD .skip) 0 (bodyQ Try.prog Try.f59 R) (frOf #[t0]) w).mp h)

def S22 (t0 : Value) (w : World) (R : Ending → World → Prop) : Prop :=
  Loop2 (.slice none 0 0) (.int .i64 0) w fun _ t3 t4 w next =>
    ln1 t0 fun t8 =>
    binQ Try.prog w .lss 3 false t4 t8 fun t9 =>
    condW t9 (
      iaS 1 t0 t4 fun t16 =>
      ld1 w t16 fun t17 =>
      semW Try.prog (apS [36, 36] 36 [(.slice none 0 0), t17]) w fun t18 w =>
      bsW Try.prog 26 1 [(0, t18)] w fun t19 w =>
      semW Try.prog (apS [26, 26] 26 [t3, t19]) w fun t20 w =>
      binQ Try.prog w .add 3 true t4 (.int .i64 1) fun t11 =>
      next t20 t11 w
    ) (
      R (.returned t3) w
    )

def A22 : Ann where
  live := fun
    | 0 => [3, 4]
    | _ => []
  wr := fun
    | 0 => fun i => (Nat.ble 3 i && Nat.ble i 20)
    | _ => fun _ => false
  sched := fun _ => .done

set_option maxRecDepth 100000 in
theorem ok22 : (codeOk Try.f22.ntmps A22 (Try.f22.body.getD .skip) 0 && Nat.ble 1 Try.f22.ntmps) = true := by kernel_rfl
set_option maxRecDepth 100000 in
theorem lift22 {t0 : Value} {w : World} {R : Ending → World → Prop} (h : S22 t0 w R) : Calls Try.prog 22 #[t0] w R :=
  calls_of_cw (fn := Try.f22) (c := Try.f22.body.getD .skip) A22 mixes Try.func22 (by kernel_rfl) ok22
    ((by kernel_rfl : (S22 t0 w R) = cw Try.prog A22 (Try.f22.body.getD .skip) 0 (bodyQ Try.prog Try.f22 R) (frOf #[t0]) w).mp h)

def S20 (t0 t1 : Value) (w : World) (R : Ending → World → Prop) : Prop :=
  ln1 t0 fun t8 =>
  ln1 t1 fun t10 =>
  binQ Try.prog w .neq 3 false t8 t10 fun t11 =>
  condW t11 (
    R (.returned (.bool false)) w
  ) (
    Loop1 (.int .i64 0) w fun _ t5 w next =>
      ln1 t0 fun t14 =>
      binQ Try.prog w .lss 3 false t5 t14 fun t15 =>
      condW t15 (
        Drew w fun w =>
        iaS 1 t0 t5 fun t20 =>
        ld1 w t20 fun t21 =>
        ln1 t21 fun t22 =>
        iaS 1 t1 t5 fun t25 =>
        ld1 w t25 fun t26 =>
        ln1 t26 fun t27 =>
        binQ Try.prog w .neq 3 false t22 t27 fun t28 =>
        condW t28 (
          R (.returned (.bool false)) w
        ) (
          Loop1 (.int .i64 0) w fun _ t6 w next_2 =>
            iaS 1 t0 t5 fun t32 =>
            ld1 w t32 fun t33 =>
            ln1 t33 fun t34 =>
            binQ Try.prog w .lss 3 false t6 t34 fun t35 =>
            condW t35 (
              Drew w fun w =>
              iaS 1 t0 t5 fun t40 =>
              ld1 w t40 fun t41 =>
              iaS 1 t41 t6 fun t43 =>
              ld1 w t43 fun t44 =>
              iaS 1 t1 t5 fun t47 =>
              ld1 w t47 fun t48 =>
              iaS 1 t48 t6 fun t50 =>
              ld1 w t50 fun t51 =>
              binQ Try.prog w .neq 3 false t44 t51 fun t52 =>
              condW t52 (
                R (.returned (.bool false)) w
              ) (
                binQ Try.prog w .add 3 true t6 (.int .i64 1) fun t37 =>
                next_2 t37 w
              )
            ) (
              binQ Try.prog w .add 3 true t5 (.int .i64 1) fun t17 =>
              next t17 w
            )
        )
      ) (
        R (.returned (.bool true)) w
      )
  )

def A20 : Ann where
  live := fun
    | 0 => [5]
    | 2 => [6]
    | _ => []
  wr := fun
    | 0 => fun i => (Nat.ble 4 i && Nat.ble i 6) || (Nat.ble 12 i && Nat.ble i 52)
    | 2 => fun i => Nat.beq i 4 || Nat.beq i 6 || (Nat.ble 29 i && Nat.ble i 52)
    | _ => fun _ => false
  sched := fun
    | 6 => (.take 0 (.take 1 (.take 2 (.take 3 (.take 4 (.take 5 (.take 6 (.take 7 (.take 8 (.take 9 (.take 10 .done)))))))))))
    | 11 => (.take 0 (.take 1 (.take 2 (.take 3 (.take 4 (.take 5 (.take 6 (.take 7 (.take 8 (.take 9 (.take 10 (.take 11 (.take 12 (.take 13 (.take 14 .done)))))))))))))))
    | _ => .done

set_option maxRecDepth 100000 in
theorem ok20 : (codeOk Try.f20.ntmps A20 (Try.f20.body.getD .skip) 0 && Nat.ble 2 Try.f20.ntmps) = true := by kernel_rfl
set_option maxRecDepth 100000 in
theorem lift20 {t0 t1 : Value} {w : World} {R : Ending → World → Prop} (h : S20 t0 t1 w R) : Calls Try.prog 20 #[t0, t1] w R :=
  calls_of_cw (fn := Try.f20) (c := Try.f20.body.getD .skip) A20 mixes Try.func20 (by kernel_rfl) ok20
    ((by kernel_rfl : (S20 t0 t1 w R) = cw Try.prog A20 (Try.f20.body.getD .skip) 0 (bodyQ Try.prog Try.f20 R) (frOf #[t0, t1]) w).mp h)

def S4 (t0 t1 t2 t3 : Value) (w : World) (R : Ending → World → Prop) : Prop :=
  callW Try.prog (.func (.func 12) #[] #[]) [t0, t1, t2, t3] w fun t23 w =>
  exQ t23 0 fun t24 =>
  exQ t23 1 fun t25 =>
  boxW 25 (.agg #[(.int .i64 0), (.int .i64 0), (.int .i64 0)]) w fun t9 w =>
  stW Try.prog 25 t9 t24 w fun w =>
  ldN 3 w t9 fun t27 =>
  callW Try.prog (.func (.func 18) #[] #[]) [t27, t25] w fun t29 w =>
  exQ t29 0 fun t30 =>
  exQ t29 1 fun t31 =>
  ldN 3 w t9 fun t33 =>
  callW Try.prog (.func (.func 19) #[] #[]) [t33, t30] w fun t35 w =>
  exQ t35 0 fun t36 =>
  exQ t35 1 fun t37 =>
  binQ Try.prog w .neq 31 true t31 (.int .i64 0) fun t39 =>
  gd t39 false (fun k => k t37 w) w fun t41 w =>
  gd t39 false (fun k => binQ Try.prog w .neq 31 true t41 (.int .i64 0) fun v => k v w) w fun t42 w =>
  pickQ t39 (.bool true) t42 fun t43 =>
  gd t43 false (fun k => k t36 w) w fun t45 w =>
  gd t43 false (fun k => k t25 w) w fun t46 w =>
  gd t43 false (fun k => callW Try.prog (.func (.func 20) #[] #[]) [t45, t46] w k) w fun t47 w =>
  gd t43 false (fun k => unQ .not t47 fun v => k v w) w fun t48 w =>
  pickQ t43 (.bool true) t48 fun t49 =>
  condW t49 (
    R (.returned (.bool false)) w
  ) (
    ldN 3 w t9 fun t51 =>
    callW Try.prog (.func (.func 21) #[] #[]) [t51] w fun t52 w =>
    exQ t52 0 fun t53 =>
    exQ t52 1 fun t54 =>
    ldN 3 w t9 fun t56 =>
    callW Try.prog (.func (.func 19) #[] #[]) [t56, t53] w fun t58 w =>
    exQ t58 0 fun t59 =>
    exQ t58 1 fun t60 =>
    binQ Try.prog w .neq 31 true t54 (.int .i64 0) fun t62 =>
    gd t62 false (fun k => k t60 w) w fun t64 w =>
    gd t62 false (fun k => binQ Try.prog w .neq 31 true t64 (.int .i64 4) fun v => k v w) w fun t65 w =>
    pickQ t62 (.bool true) t65 fun t66 =>
    gd t66 false (fun k => k t30 w) w fun t68 w =>
    gd t66 false (fun k => binQ Try.prog w .lss 3 true t68 (.int .i64 0) fun v => k v w) w fun t69 w =>
    pickQ t66 (.bool true) t69 fun t70 =>
    gd t70 false (fun k => k t30 w) w fun t72 w =>
    gd t70 false (fun k => k t53 w) w fun t73 w =>
    gd t70 false (fun k => binQ Try.prog w .geq 3 false t72 t73 fun v => k v w) w fun t74 w =>
    pickQ t70 (.bool true) t74 fun t75 =>
    condW t75 (
      R (.returned (.bool false)) w
    ) (
      callW Try.prog (.func (.func 22) #[] #[]) [t25] w fun t77 w =>
      ldN 3 w t9 fun t78 =>
      callW Try.prog (.func (.func 23) #[] #[]) [t78, t77] w fun t80 w =>
      unQ .not t80 fun t81 =>
      condW t81 (
        binQ Try.prog w .sub 3 true t53 (.int .i64 1) fun t84 =>
        binQ Try.prog w .eql 3 false t30 t84 fun t85 =>
        gd t85 true (fun k => callW Try.prog (.func (.func 17) #[] #[]) [] w k) w fun t87 w =>
        pickQ t85 t87 (.bool false) fun t88 =>
        R (.returned t88) w
      ) (
        ldN 3 w t9 fun t90 =>
        callW Try.prog (.func (.func 18) #[] #[]) [t90, t77] w fun t92 w =>
        exQ t92 0 fun t93 =>
        exQ t92 1 fun t94 =>
        binQ Try.prog w .eql 31 true t94 (.int .i64 0) fun t96 =>
        gd t96 true (fun k => k t93 w) w fun t98 w =>
        gd t96 true (fun k => k t30 w) w fun t99 w =>
        gd t96 true (fun k => binQ Try.prog w .add 3 true t99 (.int .i64 1) fun v => k v w) w fun t100 w =>
        gd t96 true (fun k => binQ Try.prog w .eql 3 false t98 t100 fun v => k v w) w fun t101 w =>
        pickQ t96 t101 (.bool false) fun t102 =>
        gd t102 true (fun k => callW Try.prog (.func (.func 17) #[] #[]) [] w k) w fun t104 w =>
        pickQ t102 t104 (.bool false) fun t105 =>
        R (.returned t105) w
      )
    )
  )

def A4 : Ann where
  live := fun _ => []
  wr := fun _ _ => false
  sched := fun _ => .done

set_option maxRecDepth 100000 in
theorem ok4 : (codeOk Try.f4.ntmps A4 (Try.f4.body.getD .skip) 0 && Nat.ble 4 Try.f4.ntmps) = true := by kernel_rfl
set_option maxRecDepth 100000 in
theorem lift4 {t0 t1 t2 t3 : Value} {w : World} {R : Ending → World → Prop} (h : S4 t0 t1 t2 t3 w R) : Calls Try.prog 4 #[t0, t1, t2, t3] w R :=
  calls_of_cw (fn := Try.f4) (c := Try.f4.body.getD .skip) A4 mixes Try.func4 (by kernel_rfl) ok4
    ((by kernel_rfl : (S4 t0 t1 t2 t3 w R) = cw Try.prog A4 (Try.f4.body.getD .skip) 0 (bodyQ Try.prog Try.f4 R) (frOf #[t0, t1, t2, t3]) w).mp h)

theorem fok19 : fnOk Try.prog 19 = true := by kernel_rfl
theorem fok59 : fnOk Try.prog 59 = true := by kernel_rfl
theorem fok22 : fnOk Try.prog 22 = true := by kernel_rfl
theorem fok20 : fnOk Try.prog 20 = true := by kernel_rfl
theorem fok4 : fnOk Try.prog 4 = true := by kernel_rfl
end Go.Proofs.Ytaephdjmpmbfpaa
