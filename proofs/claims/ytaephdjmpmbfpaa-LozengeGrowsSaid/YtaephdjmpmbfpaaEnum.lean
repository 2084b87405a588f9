/- All heaps of a box, in ascending order: that going from one to the next goes through them all. Plain; no program. -/
import Derived.Test.YtaephdjmpmbfpaaOdo
set_option linter.all false
namespace Go.Hp

/-- The greatest p of lo .. lo + n - 1 with P p. -/
def lastP (P : Nat → Bool) (lo : Nat) : Nat → Option Nat
  | 0 => none
  | n + 1 => if P (lo + n) then some (lo + n) else lastP P lo n

theorem lastP_peel (P : Nat → Bool) (lo : Nat) : ∀ n, lastP P lo (n + 1) = match lastP P (lo + 1) n with
    | some p => some p
    | none => if P lo then some lo else none
  | 0 => by simp [lastP]
  | n + 1 => by
    have ih := lastP_peel P lo n
    have e : lo + (n + 1) = lo + 1 + n := by omega
    rw [lastP, ih]
    simp only [lastP, e]
    by_cases h : P (lo + 1 + n) = true
    · simp [h]
    · simp [h]

theorem lastP_range {P : Nat → Bool} {lo : Nat} : ∀ {n p : Nat}, lastP P lo n = some p → lo ≤ p ∧ p < lo + n
  | 0, p, h => by simp [lastP] at h
  | n + 1, p, h => by
    unfold lastP at h
    split at h
    · cases h; omega
    · have := lastP_range h; omega

theorem lastP_congr {P Q : Nat → Bool} {lo : Nat} : ∀ {n : Nat}, (∀ p, lo ≤ p → p < lo + n → P p = Q p) → lastP P lo n = lastP Q lo n
  | 0, _ => rfl
  | n + 1, h => by
    unfold lastP
    rw [h (lo + n) (by omega) (by omega), lastP_congr fun p h1 h2 => h p h1 (by omega)]

/-- What may grow. -/
def growP (mx : List Int → Int) (s : List Int) (p : Nat) : Bool := decide (s.getD p 0 < mx (s.take p))
/-- One more at p, and zeros behind. -/
def bump (s : List Int) (p : Nat) : List Int := s.take p ++ (s.getD p 0 + 1) :: List.replicate (s.length - p - 1) 0

theorem nxtO_last (mx : List Int → Int) : ∀ (rest pre : List Int), nxtO mx pre rest = (lastP (growP mx (pre ++ rest)) pre.length rest.length).map fun p => (bump (pre ++ rest) p).drop pre.length
  | [], pre => by simp [nxtO, lastP]
  | x :: rest, pre => by
    have ih := nxtO_last mx rest (pre ++ [x])
    have e1 : pre ++ [x] ++ rest = pre ++ x :: rest := by simp
    have e2 : (pre ++ [x]).length = pre.length + 1 := by simp
    rw [e1, e2] at ih
    rw [nxtO, ih, List.length_cons, lastP_peel]
    cases hl : lastP (growP mx (pre ++ x :: rest)) (pre.length + 1) rest.length with
    | some p =>
      have hr := lastP_range hl
      simp only [Option.map_some, Option.some.injEq]
      have hb : ∃ t, bump (pre ++ x :: rest) p = pre ++ x :: t := by
        refine ⟨(bump (pre ++ x :: rest) p).drop (pre.length + 1), ?_⟩
        unfold bump
        have : (pre ++ x :: rest).take p = pre ++ x :: rest.take (p - pre.length - 1) := by
          rw [List.take_append, List.take_of_length_le (by omega)]
          obtain ⟨q, hq⟩ : ∃ q, p - pre.length = q + 1 := ⟨p - pre.length - 1, by omega⟩
          rw [hq, List.take_succ_cons, Nat.add_sub_cancel]
        rw [this]
        simp [List.append_assoc]
      obtain ⟨t, ht⟩ := hb
      rw [ht]
      simp [List.drop_append]
    | none =>
      have hg : growP mx (pre ++ x :: rest) pre.length = decide (x < mx pre) := by simp [growP]
      simp only [Option.map_none, hg]
      by_cases h : x < mx pre
      · simp only [h, decide_true, if_true, Option.map_some, bump]
        have : (pre ++ x :: rest).length - pre.length - 1 = rest.length := by simp
        rw [this]
        simp
      · simp [h]

/-- Rows of B numbers out of a list. -/
def unflat (A B : Nat) (l : List Int) : List (List Int) := (List.range A).map fun i => (l.drop (i * B)).take B

theorem div_lt_of {A B p : Nat} (hB : 0 < B) (hp : p < A * B) : p / B < A := (Nat.div_lt_iff_lt_mul hB).2 hp
theorem place_lt {A B i j : Nat} (hi : i < A) (hj : j < B) : i * B + j < A * B := by
  have : (i + 1) * B ≤ A * B := Nat.mul_le_mul_right _ hi
  rw [Nat.add_mul] at this; omega

theorem unflat_sized {A B : Nat} {l : List Int} (h : l.length = A * B) : Sized A B (unflat A B l) := by
  refine ⟨by simp [unflat], fun i hi => ?_⟩
  have : (i + 1) * B ≤ A * B := Nat.mul_le_mul_right _ hi
  rw [Nat.add_mul] at this
  simp [unflat, hi, h]
  omega

theorem unflat_hat {A B : Nat} {l : List Int} {i j : Nat} (hi : i < A) (hj : j < B) : hat (unflat A B l) i j = l.getD (i * B + j) 0 := by
  have e : (unflat A B l).getD i [] = (l.drop (i * B)).take B := by simp [unflat, hi]
  unfold hat
  rw [e]
  simp only [List.getD_eq_getElem?_getD, List.getElem?_take, hj, if_true, List.getElem?_drop]

theorem heap_ext {A B : Nat} {h h' : List (List Int)} (hs : Sized A B h) (hs' : Sized A B h') (he : ∀ i j, i < A → j < B → hat h i j = hat h' i j) : h = h' := by
  refine List.ext_getElem (by rw [hs.1, hs'.1]) fun i h1 h2 => ?_
  have hi : i < A := by rw [← hs.1]; exact h1
  have r1 : h.getD i [] = h[i] := by simp [List.getD_eq_getElem?_getD, h1]
  have r2 : h'.getD i [] = h'[i] := by simp [List.getD_eq_getElem?_getD, h2]
  have l1 := hs.2 i hi
  have l2 := hs'.2 i hi
  rw [r1] at l1
  rw [r2] at l2
  refine List.ext_getElem (by rw [l1, l2]) fun j h3 h4 => ?_
  have := he i j hi (by omega)
  unfold hat at this
  rw [r1, r2] at this
  simpa [List.getD_eq_getElem?_getD, h3, h4] using this

theorem clr_hat {A B : Nat} {h : List (List Int)} (hs : Sized A B h) (hB : 0 < B) (p : Nat) : ∀ m, p + m ≤ A * B → ∀ i j, i < A → j < B → hat (clr B h p m) i j = if p ≤ i * B + j ∧ i * B + j < p + m then 0 else hat h i j
  | 0, _, i, j, _, _ => by rw [if_neg (by omega)]; rfl
  | m + 1, hm, i, j, hi, hj => by
    have h1 := clr_sized hs hB p m (by omega)
    have hq : (p + m) / B < A := div_lt_of hB (by omega)
    have hdm := Nat.div_add_mod (p + m) B
    rw [Nat.mul_comm] at hdm
    have hml := Nat.mod_lt (p + m) hB
    rw [clr, put2_hat _ _ _ _ _ _ (by rw [h1.1]; exact hq) (by rw [h1.2 _ hq]; exact hml), clr_hat hs hB p m (by omega) i j hi hj]
    have hij : i * B + j = p + m → i = (p + m) / B ∧ j = (p + m) % B := fun e => by
      rw [← e, Nat.add_comm, Nat.add_mul_div_right _ _ hB, Nat.add_mul_mod_self_right, Nat.div_eq_of_lt hj, Nat.mod_eq_of_lt hj]
      omega
    by_cases hc : i = (p + m) / B ∧ j = (p + m) % B
    · obtain ⟨e1, e2⟩ := hc
      have : i * B + j = p + m := by rw [e1, e2]; exact hdm
      rw [if_pos ⟨e1, e2⟩, if_pos (by omega)]
    · have : i * B + j ≠ p + m := fun e => hc (hij e)
      rw [if_neg hc]
      by_cases h3 : p ≤ i * B + j ∧ i * B + j < p + m
      · rw [if_pos h3, if_pos (by omega)]
      · rw [if_neg h3, if_neg (by omega)]

theorem bump_length {s : List Int} {p : Nat} (hp : p < s.length) : (bump s p).length = s.length := by
  simp [bump]; omega
theorem bump_getD {s : List Int} {p k : Nat} (hp : p < s.length) (hk : k < s.length) : (bump s p).getD k 0 = if k < p then s.getD k 0 else if k = p then s.getD p 0 + 1 else 0 := by
  unfold bump
  have hl : (s.take p).length = p := by simp; omega
  rw [List.getD_eq_getElem?_getD, List.getElem?_append, hl]
  split
  · rw [List.getElem?_take, if_pos (by assumption)]; simp [List.getD_eq_getElem?_getD]
  · split
    · subst_vars; simp
    · obtain ⟨q, hq⟩ : ∃ q, k - p = q + 1 := ⟨k - p - 1, by omega⟩
      rw [hq, List.getElem?_cons_succ, List.getElem?_replicate]
      split <;> rfl

theorem most_mx {A B : Nat} {C : Int} {s : List Int} {p : Nat} (hs : s.length = A * B) (hB : 0 < B) (hp : p < A * B) : mostM C (unflat A B s) (p / B) (p % B) = mxF B C (s.take p) := by
  have hi := div_lt_of hB hp
  have hj := Nat.mod_lt p hB
  have hdm := Nat.div_add_mod p B
  rw [Nat.mul_comm] at hdm
  have hl : (s.take p).length = p := by simp; omega
  unfold mostM mxF
  simp only [hl]
  have g : ∀ k, k < p → (s.take p).getD k 0 = s.getD k 0 := fun k hk => by simp [List.getD_eq_getElem?_getD, List.getElem?_take, hk]
  have e1 : 0 < p % B → hat (unflat A B s) (p / B) (p % B - 1) = (s.take p).getD (p - 1) 0 := fun h0 => by
    rw [unflat_hat hi (by omega), g _ (by omega), show p / B * B + (p % B - 1) = p - 1 by omega]
  have e2 : 0 < p / B → hat (unflat A B s) (p / B - 1) (p % B) = (s.take p).getD (p - B) 0 := fun h0 => by
    obtain ⟨q, hq⟩ : ∃ q, p / B = q + 1 := ⟨p / B - 1, by omega⟩
    rw [hq, Nat.add_mul] at hdm
    rw [unflat_hat (by omega) (by omega), g _ (by omega), hq, Nat.add_sub_cancel, show q * B + p % B = p - B by omega]
  by_cases h1 : 0 < p % B <;> by_cases h2 : 0 < p / B <;> simp only [h1, h2, if_true, if_false] <;> simp only [e1, e2, h1, h2]

theorem findP_last {A B : Nat} {C : Int} {s : List Int} (hs : s.length = A * B) (hB : 0 < B) : ∀ n, n ≤ A * B → findP B C (unflat A B s) n = lastP (growP (mxF B C) s) 0 n
  | 0, _ => rfl
  | n + 1, hn => by
    unfold findP lastP
    have hi := div_lt_of hB (show n < A * B by omega)
    have hj := Nat.mod_lt n hB
    have hdm := Nat.div_add_mod n B
    rw [Nat.mul_comm] at hdm
    rw [findP_last hs hB n (by omega), most_mx hs hB (by omega), unflat_hat hi hj, hdm, Nat.zero_add]
    simp only [growP, decide_eq_true_eq]

theorem nextM_nxt {A B : Nat} {C : Int} {s : List Int} (hs : s.length = A * B) (hB : 0 < B) : nextM A B C (unflat A B s) = (nxtO (mxF B C) [] s).map (unflat A B) := by
  unfold nextM
  rw [findP_last hs hB _ (Nat.le_refl _), nxtO_last, List.nil_append, List.length_nil, hs]
  cases hl : lastP (growP (mxF B C) s) 0 (A * B) with
  | none => rfl
  | some p =>
    have hr := lastP_range hl
    simp only [Option.map_some, List.drop_zero, Option.some.injEq]
    have hi := div_lt_of hB (show p < A * B by omega)
    have hj := Nat.mod_lt p hB
    have hdm := Nat.div_add_mod p B
    rw [Nat.mul_comm] at hdm
    have hsz := unflat_sized (A := A) (B := B) hs
    have h1 := put2_sized hsz hi (j := p % B) (hat (unflat A B s) (p / B) (p % B) + 1)
    refine heap_ext (A := A) (B := B) (clr_sized h1 hB _ _ (by omega)) (unflat_sized (by rw [bump_length (by omega)]; exact hs)) fun i j hi' hj' => ?_
    have hpl := place_lt hi' hj'
    rw [clr_hat h1 hB _ _ (by omega) i j hi' hj', unflat_hat hi' hj', bump_getD (by omega) (by omega),
      put2_hat _ _ _ _ _ _ (by rw [hsz.1]; exact hi) (by rw [hsz.2 _ hi]; exact hj), unflat_hat hi hj, unflat_hat hi' hj', hdm]
    by_cases h2 : p + 1 ≤ i * B + j
    · rw [if_pos (by omega), if_neg (by omega), if_neg (by omega)]
    · rw [if_neg (by omega)]
      by_cases h3 : i * B + j = p
      · have : i = p / B ∧ j = p % B := by
          rw [← h3, Nat.add_comm, Nat.add_mul_div_right _ _ hB, Nat.add_mul_mod_self_right, Nat.div_eq_of_lt hj', Nat.mod_eq_of_lt hj']
          omega
        rw [if_pos this, if_neg (by omega), if_pos h3]
      · have : ¬ (i = p / B ∧ j = p % B) := fun ⟨e1, e2⟩ => h3 (by rw [e1, e2]; exact hdm)
        rw [if_neg this, if_pos (by omega)]

theorem enumO_split (mx : List Int → Int) : ∀ (m n : Nat) (pre : List Int), enumO mx (m + n) pre = (enumO mx m pre).flatMap fun s => (enumO mx n (pre ++ s)).map (s ++ ·)
  | 0, n, pre => by simp [enumO]
  | m + 1, n, pre => by
    rw [show m + 1 + n = (m + n) + 1 by omega, enumO, enumO, List.flatMap_assoc]
    congr 1
    funext x
    rw [enumO_split mx m n, List.flatMap_map, List.map_flatMap]
    congr 1
    funext s
    simp [List.map_map, Function.comp_def]

theorem enumO_mem {mx : List Int → Int} : ∀ (n : Nat) (pre s : List Int), s.length = n → (∀ q, q < n → 0 ≤ s.getD q 0 ∧ s.getD q 0 ≤ mx (pre ++ s.take q)) → s ∈ enumO mx n pre
  | 0, pre, s, h, _ => by rw [List.length_eq_zero_iff.1 h]; simp [enumO]
  | n + 1, pre, [], h, _ => by simp at h
  | n + 1, pre, x :: s, h, hg => by
    have h0 := hg 0 (by omega)
    simp at h0
    simp only [enumO, List.mem_flatMap, List.mem_range, List.mem_map]
    refine ⟨x.toNat, by omega, s, ?_, by rw [Int.toNat_of_nonneg h0.1]⟩
    refine enumO_mem n _ s (by simpa using h) fun q hq => ?_
    have := hg (q + 1) (by omega)
    rw [Int.toNat_of_nonneg h0.1]
    simpa using this

/-- All heaps of n rows under the row ab. -/
def allE (B : Nat) : Nat → List Int → List (List (List Int))
  | 0, _ => [[]]
  | n + 1, ab => (belowM B ab).flatMap fun r => (allE B n r).map (r.take B :: ·)

/-- ab is what stands above the next row, pre being the numbers of the rows before. -/
def Above (B : Nat) (C : Int) (i : Nat) (pre ab : List Int) : Prop := pre.length = i * B ∧ ab.length = 4 ∧ (∀ k, B ≤ k → ab.getD k 0 = 0) ∧ (∀ j, j < B → ab.getD j 0 ≤ C) ∧ (0 < i → ∀ j, j < B → ab.getD j 0 = pre.getD ((i - 1) * B + j) 0) ∧ (i = 0 → ∀ j, j < B → ab.getD j 0 = C)

theorem mostR_mx {B : Nat} {C : Int} {i j : Nat} {pre ab t : List Int} (ha : Above B C i pre ab) (ht : t.length = j) (hj : j < B) {r : List Int} (hr : 0 < j → r.getD (j - 1) 0 = t.getD (j - 1) 0) : mostR ab r j = mxF B C (pre ++ t) := by
  obtain ⟨h1, _, _, h2, h3, h4⟩ := ha
  have hB : 0 < B := by omega
  have hl : (pre ++ t).length = i * B + j := by simp [h1, ht]
  have e1 : (i * B + j) / B = i := by rw [Nat.add_comm, Nat.add_mul_div_right _ _ hB, Nat.div_eq_of_lt hj, Nat.zero_add]
  have e2 : (i * B + j) % B = j := by rw [Nat.add_comm, Nat.add_mul_mod_self_right, Nat.mod_eq_of_lt hj]
  unfold mostR mxF
  simp only [hl, e1, e2]
  have g1 : 0 < j → (pre ++ t).getD (i * B + j - 1) 0 = t.getD (j - 1) 0 := fun h0 => by
    rw [List.getD_eq_getElem?_getD, List.getElem?_append_right (by omega), h1, show i * B + j - 1 - i * B = j - 1 by omega, ← List.getD_eq_getElem?_getD]
  have g2 : 0 < i → (pre ++ t).getD (i * B + j - B) 0 = ab.getD j 0 := fun h0 => by
    rw [h3 h0 j hj]
    obtain ⟨q, hq⟩ : ∃ q, i = q + 1 := ⟨i - 1, by omega⟩
    subst hq
    rw [Nat.add_mul] at h1
    rw [Nat.add_mul, Nat.add_sub_cancel, List.getD_eq_getElem?_getD, List.getElem?_append_left (by omega), ← List.getD_eq_getElem?_getD, show q * B + 1 * B + j - B = q * B + j by omega]
  have hle := h2 j hj
  by_cases h0 : 0 < j <;> by_cases hi : 0 < i <;> simp only [h0, hi, if_true, if_false]
  · rw [g1 h0, g2 hi, hr h0]; omega
  · rw [g1 h0, hr h0, h4 (by omega) j hj]
  · rw [g2 hi]; omega
  · exact h4 (by omega) j hj

/-- The rows that can be under a row are the next B digits. -/
theorem bel_enum {B : Nat} {C : Int} {i : Nat} {pre ab : List Int} (ha : Above B C i pre ab) : ∀ (n j : Nat) (r : List Int), j + n = B → r.length = 4 → B ≤ 4 → (bel ab n j r) = (enumO (mxF B C) n (pre ++ r.take j)).map fun s => r.take j ++ s ++ r.drop (j + n)
  | 0, j, r, _, _, _ => by simp [bel, enumO]
  | n + 1, j, r, hj, hr, hB => by
    have hm : mostR ab r j = mxF B C (pre ++ r.take j) := mostR_mx ha (by simp; omega) (by omega) fun h0 => by simp [List.getD_eq_getElem?_getD, List.getElem?_take, show j - 1 < j by omega]
    rw [bel, enumO, hm, List.map_flatMap]
    congr 1
    funext x
    rw [bel_enum ha n (j + 1) (r.set j (x : Int)) (by omega) (by simpa using hr) hB, List.map_map]
    have e1 : (r.set j (x : Int)).take (j + 1) = r.take j ++ [(x : Int)] := by
      rw [List.take_succ_eq_append_getElem (by simp; omega), List.take_set_of_le (Nat.le_refl _), List.getElem_set_self]
    have e2 : (r.set j (x : Int)).drop (j + 1 + n) = r.drop (j + 1 + n) := List.drop_set_of_lt (by omega)
    rw [e1, e2, ← List.append_assoc]
    refine List.map_congr_left fun s _ => ?_
    simp [List.append_assoc, Nat.add_assoc, Nat.add_comm 1 n]

theorem below_enum {B : Nat} {C : Int} {i : Nat} {pre ab : List Int} (ha : Above B C i pre ab) (hB : B ≤ 4) : belowM B ab = (enumO (mxF B C) B pre).map fun s => s ++ List.replicate (4 - B) 0 := by
  unfold belowM
  rw [bel_enum ha B 0 _ (by omega) rfl hB]
  simp only [List.take_zero, List.append_nil, List.nil_append, Nat.zero_add]
  congr 1
  funext s
  match B, hB with
  | 0, _ => rfl
  | 1, _ => rfl
  | 2, _ => rfl
  | 3, _ => rfl
  | 4, _ => rfl

theorem above_next {B : Nat} {C : Int} {i : Nat} {pre ab s : List Int} (hB : B ≤ 4) (ha : Above B C i pre ab) (hs : s ∈ enumO (mxF B C) B pre) : Above B C (i + 1) (pre ++ s) (s ++ List.replicate (4 - B) 0) := by
  obtain ⟨hl, hg⟩ := enumO_good B pre s hs
  have hget : ∀ j, j < B → (s ++ List.replicate (4 - B) (0 : Int)).getD j 0 = s.getD j 0 := fun j hj => by
    simp only [List.getD_eq_getElem?_getD]; rw [List.getElem?_append_left (by omega)]
  refine ⟨by simp [ha.1, hl, Nat.add_mul], by simp [hl]; omega, fun k hk => ?_, fun j hj => ?_, fun _ j hj => ?_, fun h => by omega⟩
  · rw [List.getD_eq_getElem?_getD, List.getElem?_append_right (by omega), List.getElem?_replicate]
    split <;> rfl
  · rw [hget j hj]
    refine Int.le_trans (hg j hj).2 ?_
    unfold mxF
    dsimp only
    split <;> split <;> omega
  · rw [hget j hj, Nat.add_sub_cancel, List.getD_eq_getElem?_getD, List.getD_eq_getElem?_getD, List.getElem?_append_right (by rw [ha.1]; omega), ha.1, show i * B + j - i * B = j by omega]

theorem unflat_cons {n B : Nat} {s t : List Int} (hs : s.length = B) : unflat (n + 1) B (s ++ t) = s :: unflat n B t := by
  unfold unflat
  rw [List.range_succ_eq_map, List.map_cons, List.map_map]
  congr 1
  · simp [List.take_of_length_le, hs]
  · refine List.map_congr_left fun i _ => ?_
    simp only [Function.comp_def]
    rw [List.drop_append, List.drop_eq_nil_of_le (by rw [hs, Nat.succ_mul]; omega), List.nil_append, hs, Nat.succ_mul, Nat.add_sub_cancel]

theorem flatMap_congr' {α β : Type} {f g : α → List β} : ∀ {l : List α}, (∀ x ∈ l, f x = g x) → l.flatMap f = l.flatMap g
  | [], _ => rfl
  | x :: l, h => by rw [List.flatMap_cons, List.flatMap_cons, h x (by simp), flatMap_congr' fun y hy => h y (by simp [hy])]

theorem allE_enum {B : Nat} {C : Int} (hB : B ≤ 4) : ∀ (n i : Nat) (pre ab : List Int), Above B C i pre ab → allE B n ab = (enumO (mxF B C) (n * B) pre).map (unflat n B)
  | 0, i, pre, ab, _ => by simp [allE, enumO, unflat]
  | n + 1, i, pre, ab, ha => by
    have e : (n + 1) * B = B + n * B := by rw [Nat.add_mul]; omega
    rw [allE, below_enum ha hB, e, enumO_split, List.flatMap_map, List.map_flatMap]
    refine flatMap_congr' fun s hs => ?_
    have hl := (enumO_good B pre s hs).1
    rw [allE_enum hB n (i + 1) _ _ (above_next hB ha hs), List.map_map, List.map_map]
    refine List.map_congr_left fun t _ => ?_
    simp only [Function.comp_def]
    rw [unflat_cons hl, List.take_append_of_le_length (by omega), List.take_of_length_le (by omega)]

end Go.Hp
