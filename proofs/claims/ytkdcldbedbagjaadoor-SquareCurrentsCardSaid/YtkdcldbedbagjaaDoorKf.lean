/- What the program's matrices have for determinants; their bounds. -/
import Derived.Test.YtkdcldbedbagjaaDoorKe
set_option linter.all false
namespace Go.Proofs.YtkdcldbedbagjaaDoor
open Go.Lf Go.RowKit Go.Dt

theorem keep_one (t : Nat) : ∀ n, keepN n [(t : Int)] = if t < n then (List.range (n - 1)).map (sk t) else List.range n
  | 0 => by simp [keepN]
  | n + 1 => by
    rw [keepN_succ, keep_one t n]
    have hm : ((n : Int) ∈ [(t : Int)]) ↔ n = t := by simp; omega
    rcases Nat.lt_trichotomy t n with h | h | h
    · rw [if_pos h, if_pos (show t < n + 1 by omega), if_neg (fun x => by have := hm.1 x; omega)]
      have : n + 1 - 1 = (n - 1) + 1 := by omega
      rw [this, List.range_succ, List.map_append, List.map_singleton, sk_ge (by omega), show n - 1 + 1 = n by omega]
    · subst h
      rw [if_neg (Nat.lt_irrefl t), if_pos (Nat.lt_succ_self t), if_pos (hm.2 rfl), List.append_nil, Nat.add_sub_cancel]
      refine (List.map_id _).symm.trans (List.map_congr_left fun i hi => ?_)
      rw [sk_lt (List.mem_range.1 hi)]; rfl
    · rw [if_neg (show ¬ t < n by omega), if_neg (show ¬ t < n + 1 by omega), if_neg (fun x => by have := hm.1 x; omega), List.range_succ]
theorem keep_two {n s t s' : Nat} (ht : t < n) (hs : sk t s' = s) (hs' : s' < n - 1) : keepN n [(s : Int), (t : Int)] = (List.range (n - 2)).map fun i => sk t (sk s' i) := by
  have e1 : keepN n [(s : Int), (t : Int)] = (keepN n [(t : Int)]).filter fun i => !decide (i = s) := by
    unfold keepN
    rw [List.filter_filter]
    refine List.filter_congr fun i _ => ?_
    by_cases a : i = s
    · subst a; simp
    · by_cases b : i = t
      · subst b; simp
      · have h1 : ¬ (i : Int) = s := by omega
        have h2 : ¬ (i : Int) = t := by omega
        simp [a, h1, h2]
  rw [e1, keep_one, if_pos ht, List.filter_map]
  have e2 : (List.range (n - 1)).filter ((fun i => !decide (i = s)) ∘ sk t) = keepN (n - 1) [(s' : Int)] := by
    unfold keepN
    refine List.filter_congr fun i _ => ?_
    simp only [Function.comp]
    by_cases a : i = s'
    · subst a; simp [hs]
    · have h1 : ¬ sk t i = s := fun h => a (sk_inj (h.trans hs.symm))
      have h2 : ¬ (i : Int) = s' := by omega
      simp [h1, h2]
  rw [e2, keep_one, if_pos hs', List.map_map, show n - 1 - 1 = n - 2 by omega]
  rfl

theorem red_hat {n : Nat} {wo : List Int} {f : Nat → Nat → Int} {a b : Nat} (ha : a < (keepN n wo).length) (hb : b < (keepN n wo).length) : hat (redM n wo f) a b = f ((keepN n wo).getD a 0) ((keepN n wo).getD b 0) := by
  unfold hat redM
  have e : ((keepN n wo).map fun i => (keepN n wo).map fun j => f i j).getD a [] = (keepN n wo).map fun j => f ((keepN n wo).getD a 0) j := by
    rw [List.getD_eq_getElem?_getD, List.getElem?_map, List.getElem?_eq_getElem ha, getD_lt _ _ _ ha]; rfl
  rw [e, List.getD_eq_getElem?_getD, List.getElem?_map, List.getElem?_eq_getElem hb, getD_lt _ _ _ hb]; rfl
theorem red_sized (n : Nat) (wo : List Int) (f : Nat → Nat → Int) : Sized (keepN n wo).length (keepN n wo).length (redM n wo f) := by
  refine ⟨by simp [redM], fun i hi => ?_⟩
  unfold redM
  rw [List.getD_eq_getElem?_getD, List.getElem?_map, List.getElem?_eq_getElem hi]
  simp
theorem keep_one_len {n t : Nat} (ht : t < n) : (keepN n [(t : Int)]).length = n - 1 := by rw [keep_one, if_pos ht]; simp
theorem keep_two_len {n s t : Nat} (ht : t < n) (hs : s < n) (hst : s ≠ t) : (keepN n [(s : Int), (t : Int)]).length = n - 2 := by
  obtain ⟨s', h1, h2, h3⟩ := sk_onto (j := t) (c := s) hst
  rw [keep_two ht h1 (by by_cases h : t < s <;> omega)]; simp
theorem keep_get {n t i : Nat} (ht : t < n) (hi : i < n - 1) : (keepN n [(t : Int)]).getD i 0 = sk t i := by
  rw [keep_one, if_pos ht, List.getD_eq_getElem?_getD, List.getElem?_map, List.getElem?_range hi]; rfl

theorem MS_one (t : Nat) (l : List Wr) : MS (one t) l = setCol (lap l) t (unit t) := by
  funext i j
  unfold MS setCol
  by_cases h : j = t
  · subst h; rw [one_self, if_pos rfl, if_pos rfl]
  · rw [one_not h, if_neg h]; rfl
theorem det_red1 {n t : Nat} (ws : List Wr) (ht : t < n) : det (n - 1) (hat (redM n [(t : Int)] (lap ws))) = det n (MS (one t) ws) := by
  obtain ⟨m, rfl⟩ : ∃ m, n = m + 1 := ⟨n - 1, by omega⟩
  have hl := keep_one_len ht
  rw [MS_one, det_col_unit _ ht]
  refine det_congr fun i j hi hj => ?_
  simp only [Nat.add_sub_cancel] at hl hi hj
  rw [red_hat (by omega) (by omega), keep_get ht (by omega), keep_get ht (by omega)]
theorem det_red2 {n s t : Nat} (ws : List Wr) (ht : t < n) (hs : s < n) (hst : s ≠ t) : det (n - 2) (hat (redM n [(s : Int), (t : Int)] (lap ws))) = det n (MS (ins (one t) s) ws) := by
  obtain ⟨s', h1, h2, h3⟩ := sk_onto (j := t) (c := s) hst
  have hs' : s' < n - 1 := by by_cases h : t < s <;> omega
  obtain ⟨m, rfl⟩ : ∃ m, n = m + 2 := ⟨n - 2, by omega⟩
  have hl := keep_two_len ht hs hst
  have hk := keep_two ht h1 hs'
  have e1 : MS (ins (one t) s) ws = setCol (setCol (lap ws) s (unit s)) t (unit t) := by
    rw [← MS_ins, MS_one, setCol_comm _ _ _ (Ne.symm hst)]
  rw [e1, det_col_unit _ ht]
  have e2 : (fun i j => setCol (lap ws) s (unit s) (sk t i) (sk t j)) = setCol (fun i j => lap ws (sk t i) (sk t j)) s' (unit s') := by
    funext i j
    unfold setCol unit
    by_cases h : j = s'
    · subst h
      rw [if_pos h1, if_pos rfl]
      by_cases g : i = j
      · subst g; rw [if_pos h1, if_pos rfl]
      · rw [if_neg g, if_neg fun x => g (sk_inj (x.trans h1.symm))]
    · rw [if_neg h, if_neg fun x => h (sk_inj (x.trans h1.symm))]
  rw [e2, det_col_unit _ (by omega)]
  refine det_congr fun i j hi hj => ?_
  simp only [Nat.add_sub_cancel] at hl hi hj hk
  have hg : ∀ i, i < m → (keepN (m + 2) [(s : Int), (t : Int)]).getD i 0 = sk t (sk s' i) := fun i hi => by
    rw [hk, List.getD_eq_getElem?_getD, List.getElem?_map, List.getElem?_range hi]; rfl
  rw [red_hat (by omega) (by omega), hg i hi, hg j hj]
/-- The matrix by which Cramer's rule finds a potential. -/
theorem det_cramer {n s t v at_v at_s : Nat} (ws : List Wr) {M : List (List Int)} (ht : t < n) (hs : sk t at_s = s) (hv : sk t at_v = v) (hvt : v ≠ t)
    (hM : ∀ i j, i < n - 1 → j < n - 1 → hat M i j = if j = at_v then (if i = at_s then 1 else 0) else hat (redM n [(t : Int)] (lap ws)) i j) : det (n - 1) (hat M) = det n (setCol (MS (one t) ws) v (unit s)) := by
  obtain ⟨m, rfl⟩ : ∃ m, n = m + 1 := ⟨n - 1, by omega⟩
  have hl := keep_one_len ht
  rw [MS_one, setCol_comm _ _ _ (Ne.symm hvt), det_col_unit _ ht]
  refine det_congr fun i j hi hj => ?_
  rw [hM i j hi hj]
  simp only [Nat.add_sub_cancel] at hl hi hj
  unfold setCol unit
  by_cases h : j = at_v
  · subst h
    rw [if_pos rfl, if_pos hv]
    by_cases g : i = at_s
    · subst g; rw [if_pos rfl, if_pos hs]
    · rw [if_neg g, if_neg fun x => g (sk_inj (x.trans hs.symm))]
  · rw [if_neg h, if_neg fun x => h (sk_inj (x.trans hv.symm)), red_hat (by omega) (by omega), keep_get ht (by omega), keep_get ht (by omega)]

/-! ### bounds -/
def dg (l : List Wr) (i : Nat) : Nat := (l.map fun e => (ends e i).natAbs).sum
theorem ends_abs {n : Nat} {e : Wr} (h1 : e.1 < n) (h2 : e.2 < n) (h3 : e.1 ≠ e.2) : sumU (fun j => (ends e j).natAbs) n = 2 := by
  have e1 : ∀ j, (ends e j).natAbs = (if j = e.1 then 1 else 0) + (if j = e.2 then 1 else 0) := fun j => by
    unfold ends unit
    by_cases a : j = e.1
    · rw [if_pos a, if_neg (by omega), if_pos a, if_neg (by omega)]; rfl
    · by_cases b : j = e.2
      · rw [if_neg a, if_pos b, if_neg a, if_pos b]; rfl
      · rw [if_neg a, if_neg b, if_neg a, if_neg b]; rfl
  have single : ∀ (n c : Nat), c < n → sumU (fun j => if j = c then 1 else 0) n = 1 := fun n c => by
    have none : ∀ (n : Nat), n ≤ c → sumU (fun j => if j = c then 1 else 0) n = 0 := fun n => by
      induction n with
      | zero => intro _; rfl
      | succ n ih => intro h; simp only [sumU]; rw [ih (by omega), if_neg (by omega)]
    induction n with
    | zero => intro h; omega
    | succ n ih =>
      intro h
      simp only [sumU]
      by_cases e : c = n
      · subst e; rw [none c (Nat.le_refl _), if_pos rfl]
      · rw [ih (by omega), if_neg (fun h => e h.symm)]
  rw [sumU_congr fun j _ => e1 j, sumU_add, single n _ h1, single n _ h2]
theorem lap_rows {n : Nat} (i : Nat) : ∀ {l : List Wr}, Wf n l → sumU (fun j => (lap l i j).natAbs) n ≤ 2 * dg l i
  | [], _ => by
    simp only [lap, dg, List.map_nil, List.sum_nil]
    have : ∀ n, sumU (fun _ => (0 : Int).natAbs) n = 0 := fun n => by have := sumU_const 0 n; simpa using this
    rw [this]; omega
  | e :: l, h => by
    have he := h e (List.mem_cons_self ..)
    have h1 := lap_rows i h.tail
    have h2 : sumU (fun j => (lap (e :: l) i j).natAbs) n ≤ sumU (fun j => (lap l i j).natAbs + (ends e j).natAbs * (ends e i).natAbs) n := sumU_le fun j _ => by
      simp only [lap]
      have : (ends e i * ends e j).natAbs = (ends e j).natAbs * (ends e i).natAbs := by rw [Int.natAbs_mul, Nat.mul_comm]
      omega
    rw [sumU_add, sumU_mul, ends_abs he.1 he.2.1 he.2.2] at h2
    simp only [dg, List.map_cons, List.sum_cons] at h1 ⊢
    omega
theorem dg_sum {n : Nat} : ∀ {l : List Wr}, Wf n l → sumU (dg l) n = 2 * l.length
  | [], _ => by
    have : ∀ n, sumU (fun _ => 0) n = 0 := fun n => by have := sumU_const 0 n; simpa using this
    exact (sumU_congr fun _ _ => rfl).trans (this n)
  | e :: l, h => by
    have he := h e (List.mem_cons_self ..)
    rw [sumU_congr (g := fun i => (ends e i).natAbs + dg l i) fun i _ => by simp [dg], sumU_add, ends_abs he.1 he.2.1 he.2.2, dg_sum h.tail, List.length_cons]
    omega
theorem dg_le (l : List Wr) (i : Nat) : dg l i ≤ l.length := by
  induction l with
  | nil => exact Nat.le_refl _
  | cons e l ih =>
    have : (ends e i).natAbs ≤ 1 := by
      unfold ends unit
      split <;> split <;> (try omega) <;> simp
    simp only [dg, List.map_cons, List.sum_cons, List.length_cons] at ih ⊢
    omega
theorem sq_pow : ∀ x, x < 33 → (2 * x + 1) * (2 * x + 1) ≤ 2 ^ (x + 4) := by decide

theorem keep_sum (wo : List Int) (g : Nat → Nat) : ∀ n, sumU (fun a => g ((keepN n wo).getD a 0)) (keepN n wo).length ≤ sumU g n
  | 0 => by simp [keepN, sumU]
  | n + 1 => by
    have ih := keep_sum wo g n
    have hk := keepN_succ n wo
    by_cases hm : (n : Int) ∈ wo
    · rw [if_pos hm, List.append_nil] at hk
      rw [hk]; simp only [sumU]; omega
    · rw [if_neg hm] at hk
      rw [hk, List.length_append, List.length_singleton]
      simp only [sumU]
      rw [sumU_congr (g := fun a => g ((keepN n wo).getD a 0)) fun a ha => by
        rw [List.getD_eq_getElem?_getD, List.getElem?_append_left ha, ← List.getD_eq_getElem?_getD]]
      rw [List.getD_eq_getElem?_getD, List.getElem?_append_right (Nat.le_refl _), Nat.sub_self]
      show _ + g n ≤ _
      omega
/-- The program's matrices, one column of which may be changed for 0s and 1s, are small. -/
theorem red_rowed {n : Nat} {wo : List Int} {ws : List Wr} {M : List (List Int)} {c : Nat} (hwf : Wf n ws) (hws : ws.length ≤ 16) (hlen : (keepN n wo).length ≤ 7)
    (hM : ∀ i j, i < (keepN n wo).length → j < (keepN n wo).length → (hat M i j).natAbs ≤ (hat (redM n wo (lap ws)) i j).natAbs + if j = c then 1 else 0) :
    Rowed (keepN n wo).length (hat M) (fun a => dg ws ((keepN n wo).getD a 0) + 4) ∧ sumU (fun a => dg ws ((keepN n wo).getD a 0) + 4) (keepN n wo).length ≤ 60 := by
  refine ⟨fun i hi => ?_, ?_⟩
  · have hone : ∀ m, sumU (fun j => if j = c then 1 else 0) m ≤ 1 := fun m => by
      have none : ∀ (n : Nat), n ≤ c → sumU (fun j => if j = c then 1 else 0) n = 0 := fun n => by
        induction n with
        | zero => intro _; rfl
        | succ n ih => intro h; simp only [sumU]; rw [ih (by omega), if_neg (by omega)]
      induction m with
      | zero => exact Nat.zero_le _
      | succ m ih =>
        simp only [sumU]
        by_cases e : m = c
        · subst e; rw [none m (Nat.le_refl _), if_pos rfl]; omega
        · rw [if_neg e]; omega
    have h1 : sumU (fun j => (hat M i j).natAbs) (keepN n wo).length ≤ 2 * dg ws ((keepN n wo).getD i 0) + 1 := by
      refine Nat.le_trans (sumU_le fun j hj => hM i j hi hj) ?_
      rw [sumU_add]
      have h2 := hone (keepN n wo).length
      have h3 := keep_sum wo (fun b => (lap ws ((keepN n wo).getD i 0) b).natAbs) n
      have h4 := lap_rows ((keepN n wo).getD i 0) hwf
      rw [sumU_congr (g := fun j => (lap ws ((keepN n wo).getD i 0) ((keepN n wo).getD j 0)).natAbs) fun j hj => by rw [red_hat hi hj]]
      omega
    have h5 := dg_le ws ((keepN n wo).getD i 0)
    exact Nat.le_trans (Nat.mul_le_mul h1 h1) (sq_pow _ (by omega))
  · rw [sumU_add, sumU_const]
    have h1 := keep_sum wo (dg ws) n
    have h2 := dg_sum hwf
    omega

end Go.Proofs.YtkdcldbedbagjaaDoor
