/- Texts of my own, merged by program: Kf Kg Kh. -/
import Derived.Test.YtkdcldbedbagjaaDoorN07
set_option linter.all false
/- What the program's matrices have for determinants; their bounds. -/
namespace Go.Proofs.YtkdcldbedbagjaaDoor
open Go.Lf Go.RowKit Go.Dt

theorem keep_one (t : Nat) : ∀ n, keepN n [(t : Int)] = if t < n then (List.range (n - 1)).map (sk t) else List.range n
  | 0 => by simp [keepN]
  | n + 1 => by
    rw [keepN_succ, keep_one t n]
    have hm : ((n : Int) ∈ [(t : Int)]) ↔ n = t := by simp; omega
    rcases Nat.lt_trichotomy t n with h | h | h
    · rw [if_pos h, if_pos (show t < n + 1 by omega), if_neg (fun x => by have := hm.1 x; omega)]
      have : n + 1 - 1 = (n - 1) + 1 := by omega
      rw [this, List.range_succ, List.map_append, List.map_singleton, sk_ge (by omega), show n - 1 + 1 = n by omega]
    · subst h
      rw [if_neg (Nat.lt_irrefl t), if_pos (Nat.lt_succ_self t), if_pos (hm.2 rfl), List.append_nil, Nat.add_sub_cancel]
      refine (List.map_id _).symm.trans (List.map_congr_left fun i hi => ?_)
      rw [sk_lt (List.mem_range.1 hi)]; rfl
    · rw [if_neg (show ¬ t < n by omega), if_neg (show ¬ t < n + 1 by omega), if_neg (fun x => by have := hm.1 x; omega), List.range_succ]
theorem keep_two {n s t s' : Nat} (ht : t < n) (hs : sk t s' = s) (hs' : s' < n - 1) : keepN n [(s : Int), (t : Int)] = (List.range (n - 2)).map fun i => sk t (sk s' i) := by
  have e1 : keepN n [(s : Int), (t : Int)] = (keepN n [(t : Int)]).filter fun i => !decide (i = s) := by
    unfold keepN
    rw [List.filter_filter]
    refine List.filter_congr fun i _ => ?_
    by_cases a : i = s
    · subst a; simp
    · by_cases b : i = t
      · subst b; simp
      · have h1 : ¬ (i : Int) = s := by omega
        have h2 : ¬ (i : Int) = t := by omega
        simp [a, h1, h2]
  rw [e1, keep_one, if_pos ht, List.filter_map]
  have e2 : (List.range (n - 1)).filter ((fun i => !decide (i = s)) ∘ sk t) = keepN (n - 1) [(s' : Int)] := by
    unfold keepN
    refine List.filter_congr fun i _ => ?_
    simp only [Function.comp]
    by_cases a : i = s'
    · subst a; simp [hs]
    · have h1 : ¬ sk t i = s := fun h => a (sk_inj (h.trans hs.symm))
      have h2 : ¬ (i : Int) = s' := by omega
      simp [h1, h2]
  rw [e2, keep_one, if_pos hs', List.map_map, show n - 1 - 1 = n - 2 by omega]
  rfl

theorem red_hat {n : Nat} {wo : List Int} {f : Nat → Nat → Int} {a b : Nat} (ha : a < (keepN n wo).length) (hb : b < (keepN n wo).length) : hat (redM n wo f) a b = f ((keepN n wo).getD a 0) ((keepN n wo).getD b 0) := by
  unfold hat redM
  have e : ((keepN n wo).map fun i => (keepN n wo).map fun j => f i j).getD a [] = (keepN n wo).map fun j => f ((keepN n wo).getD a 0) j := by
    rw [List.getD_eq_getElem?_getD, List.getElem?_map, List.getElem?_eq_getElem ha, getD_lt _ _ _ ha]; rfl
  rw [e, List.getD_eq_getElem?_getD, List.getElem?_map, List.getElem?_eq_getElem hb, getD_lt _ _ _ hb]; rfl
theorem red_sized (n : Nat) (wo : List Int) (f : Nat → Nat → Int) : Sized (keepN n wo).length (keepN n wo).length (redM n wo f) := by
  refine ⟨by simp [redM], fun i hi => ?_⟩
  unfold redM
  rw [List.getD_eq_getElem?_getD, List.getElem?_map, List.getElem?_eq_getElem hi]
  simp
theorem keep_one_len {n t : Nat} (ht : t < n) : (keepN n [(t : Int)]).length = n - 1 := by rw [keep_one, if_pos ht]; simp
theorem keep_two_len {n s t : Nat} (ht : t < n) (hs : s < n) (hst : s ≠ t) : (keepN n [(s : Int), (t : Int)]).length = n - 2 := by
  obtain ⟨s', h1, h2, h3⟩ := sk_onto (j := t) (c := s) hst
  rw [keep_two ht h1 (by by_cases h : t < s <;> omega)]; simp
theorem keep_get {n t i : Nat} (ht : t < n) (hi : i < n - 1) : (keepN n [(t : Int)]).getD i 0 = sk t i := by
  rw [keep_one, if_pos ht, List.getD_eq_getElem?_getD, List.getElem?_map, List.getElem?_range hi]; rfl

theorem MS_one (t : Nat) (l : List Wr) : MS (one t) l = setCol (lap l) t (unit t) := by
  funext i j
  unfold MS setCol
  by_cases h : j = t
  · subst h; rw [one_self, if_pos rfl, if_pos rfl]
  · rw [one_not h, if_neg h]; rfl
theorem det_red1 {n t : Nat} (ws : List Wr) (ht : t < n) : det (n - 1) (hat (redM n [(t : Int)] (lap ws))) = det n (MS (one t) ws) := by
  obtain ⟨m, rfl⟩ : ∃ m, n = m + 1 := ⟨n - 1, by omega⟩
  have hl := keep_one_len ht
  rw [MS_one, det_col_unit _ ht]
  refine det_congr fun i j hi hj => ?_
  simp only [Nat.add_sub_cancel] at hl hi hj
  rw [red_hat (by omega) (by omega), keep_get ht (by omega), keep_get ht (by omega)]
theorem det_red2 {n s t : Nat} (ws : List Wr) (ht : t < n) (hs : s < n) (hst : s ≠ t) : det (n - 2) (hat (redM n [(s : Int), (t : Int)] (lap ws))) = det n (MS (ins (one t) s) ws) := by
  obtain ⟨s', h1, h2, h3⟩ := sk_onto (j := t) (c := s) hst
  have hs' : s' < n - 1 := by by_cases h : t < s <;> omega
  obtain ⟨m, rfl⟩ : ∃ m, n = m + 2 := ⟨n - 2, by omega⟩
  have hl := keep_two_len ht hs hst
  have hk := keep_two ht h1 hs'
  have e1 : MS (ins (one t) s) ws = setCol (setCol (lap ws) s (unit s)) t (unit t) := by
    rw [← MS_ins, MS_one, setCol_comm _ _ _ (Ne.symm hst)]
  rw [e1, det_col_unit _ ht]
  have e2 : (fun i j => setCol (lap ws) s (unit s) (sk t i) (sk t j)) = setCol (fun i j => lap ws (sk t i) (sk t j)) s' (unit s') := by
    funext i j
    unfold setCol unit
    by_cases h : j = s'
    · subst h
      rw [if_pos h1, if_pos rfl]
      by_cases g : i = j
      · subst g; rw [if_pos h1, if_pos rfl]
      · rw [if_neg g, if_neg fun x => g (sk_inj (x.trans h1.symm))]
    · rw [if_neg h, if_neg fun x => h (sk_inj (x.trans h1.symm))]
  rw [e2, det_col_unit _ (by omega)]
  refine det_congr fun i j hi hj => ?_
  simp only [Nat.add_sub_cancel] at hl hi hj hk
  have hg : ∀ i, i < m → (keepN (m + 2) [(s : Int), (t : Int)]).getD i 0 = sk t (sk s' i) := fun i hi => by
    rw [hk, List.getD_eq_getElem?_getD, List.getElem?_map, List.getElem?_range hi]; rfl
  rw [red_hat (by omega) (by omega), hg i hi, hg j hj]
/-- The matrix by which Cramer's rule finds a potential. -/
theorem det_cramer {n s t v at_v at_s : Nat} (ws : List Wr) {M : List (List Int)} (ht : t < n) (hs : sk t at_s = s) (hv : sk t at_v = v) (hvt : v ≠ t)
    (hM : ∀ i j, i < n - 1 → j < n - 1 → hat M i j = if j = at_v then (if i = at_s then 1 else 0) else hat (redM n [(t : Int)] (lap ws)) i j) : det (n - 1) (hat M) = det n (setCol (MS (one t) ws) v (unit s)) := by
  obtain ⟨m, rfl⟩ : ∃ m, n = m + 1 := ⟨n - 1, by omega⟩
  have hl := keep_one_len ht
  rw [MS_one, setCol_comm _ _ _ (Ne.symm hvt), det_col_unit _ ht]
  refine det_congr fun i j hi hj => ?_
  rw [hM i j hi hj]
  simp only [Nat.add_sub_cancel] at hl hi hj
  unfold setCol unit
  by_cases h : j = at_v
  · subst h
    rw [if_pos rfl, if_pos hv]
    by_cases g : i = at_s
    · subst g; rw [if_pos rfl, if_pos hs]
    · rw [if_neg g, if_neg fun x => g (sk_inj (x.trans hs.symm))]
  · rw [if_neg h, if_neg fun x => h (sk_inj (x.trans hv.symm)), red_hat (by omega) (by omega), keep_get ht (by omega), keep_get ht (by omega)]

/-! ### bounds -/
def dg (l : List Wr) (i : Nat) : Nat := (l.map fun e => (ends e i).natAbs).sum
theorem ends_abs {n : Nat} {e : Wr} (h1 : e.1 < n) (h2 : e.2 < n) (h3 : e.1 ≠ e.2) : sumU (fun j => (ends e j).natAbs) n = 2 := by
  have e1 : ∀ j, (ends e j).natAbs = (if j = e.1 then 1 else 0) + (if j = e.2 then 1 else 0) := fun j => by
    unfold ends unit
    by_cases a : j = e.1
    · rw [if_pos a, if_neg (by omega), if_pos a, if_neg (by omega)]; rfl
    · by_cases b : j = e.2
      · rw [if_neg a, if_pos b, if_neg a, if_pos b]; rfl
      · rw [if_neg a, if_neg b, if_neg a, if_neg b]; rfl
  have single : ∀ (n c : Nat), c < n → sumU (fun j => if j = c then 1 else 0) n = 1 := fun n c => by
    have none : ∀ (n : Nat), n ≤ c → sumU (fun j => if j = c then 1 else 0) n = 0 := fun n => by
      induction n with
      | zero => intro _; rfl
      | succ n ih => intro h; simp only [sumU]; rw [ih (by omega), if_neg (by omega)]
    induction n with
    | zero => intro h; omega
    | succ n ih =>
      intro h
      simp only [sumU]
      by_cases e : c = n
      · subst e; rw [none c (Nat.le_refl _), if_pos rfl]
      · rw [ih (by omega), if_neg (fun h => e h.symm)]
  rw [sumU_congr fun j _ => e1 j, sumU_add, single n _ h1, single n _ h2]
theorem lap_rows {n : Nat} (i : Nat) : ∀ {l : List Wr}, Wf n l → sumU (fun j => (lap l i j).natAbs) n ≤ 2 * dg l i
  | [], _ => by
    simp only [lap, dg, List.map_nil, List.sum_nil]
    have : ∀ n, sumU (fun _ => (0 : Int).natAbs) n = 0 := fun n => by have := sumU_const 0 n; simpa using this
    rw [this]; omega
  | e :: l, h => by
    have he := h e (List.mem_cons_self ..)
    have h1 := lap_rows i h.tail
    have h2 : sumU (fun j => (lap (e :: l) i j).natAbs) n ≤ sumU (fun j => (lap l i j).natAbs + (ends e j).natAbs * (ends e i).natAbs) n := sumU_le fun j _ => by
      simp only [lap]
      have : (ends e i * ends e j).natAbs = (ends e j).natAbs * (ends e i).natAbs := by rw [Int.natAbs_mul, Nat.mul_comm]
      omega
    rw [sumU_add, sumU_mul, ends_abs he.1 he.2.1 he.2.2] at h2
    simp only [dg, List.map_cons, List.sum_cons] at h1 ⊢
    omega
theorem dg_sum {n : Nat} : ∀ {l : List Wr}, Wf n l → sumU (dg l) n = 2 * l.length
  | [], _ => by
    have : ∀ n, sumU (fun _ => 0) n = 0 := fun n => by have := sumU_const 0 n; simpa using this
    exact (sumU_congr fun _ _ => rfl).trans (this n)
  | e :: l, h => by
    have he := h e (List.mem_cons_self ..)
    rw [sumU_congr (g := fun i => (ends e i).natAbs + dg l i) fun i _ => by simp [dg], sumU_add, ends_abs he.1 he.2.1 he.2.2, dg_sum h.tail, List.length_cons]
    omega
theorem dg_le (l : List Wr) (i : Nat) : dg l i ≤ l.length := by
  induction l with
  | nil => exact Nat.le_refl _
  | cons e l ih =>
    have : (ends e i).natAbs ≤ 1 := by
      unfold ends unit
      split <;> split <;> (try omega) <;> simp
    simp only [dg, List.map_cons, List.sum_cons, List.length_cons] at ih ⊢
    omega
theorem sq_pow : ∀ x, x < 33 → (2 * x + 1) * (2 * x + 1) ≤ 2 ^ (x + 4) := by decide

theorem keep_sum (wo : List Int) (g : Nat → Nat) : ∀ n, sumU (fun a => g ((keepN n wo).getD a 0)) (keepN n wo).length ≤ sumU g n
  | 0 => by simp [keepN, sumU]
  | n + 1 => by
    have ih := keep_sum wo g n
    have hk := keepN_succ n wo
    by_cases hm : (n : Int) ∈ wo
    · rw [if_pos hm, List.append_nil] at hk
      rw [hk]; simp only [sumU]; omega
    · rw [if_neg hm] at hk
      rw [hk, List.length_append, List.length_singleton]
      simp only [sumU]
      rw [sumU_congr (g := fun a => g ((keepN n wo).getD a 0)) fun a ha => by
        rw [List.getD_eq_getElem?_getD, List.getElem?_append_left ha, ← List.getD_eq_getElem?_getD]]
      rw [List.getD_eq_getElem?_getD, List.getElem?_append_right (Nat.le_refl _), Nat.sub_self]
      show _ + g n ≤ _
      omega
/-- The program's matrices, one column of which may be changed for 0s and 1s, are small. -/
theorem red_rowed {n : Nat} {wo : List Int} {ws : List Wr} {M : List (List Int)} {c : Nat} (hwf : Wf n ws) (hws : ws.length ≤ 16) (hlen : (keepN n wo).length ≤ 7)
    (hM : ∀ i j, i < (keepN n wo).length → j < (keepN n wo).length → (hat M i j).natAbs ≤ (hat (redM n wo (lap ws)) i j).natAbs + if j = c then 1 else 0) :
    Rowed (keepN n wo).length (hat M) (fun a => dg ws ((keepN n wo).getD a 0) + 4) ∧ sumU (fun a => dg ws ((keepN n wo).getD a 0) + 4) (keepN n wo).length ≤ 60 := by
  refine ⟨fun i hi => ?_, ?_⟩
  · have hone : ∀ m, sumU (fun j => if j = c then 1 else 0) m ≤ 1 := fun m => by
      have none : ∀ (n : Nat), n ≤ c → sumU (fun j => if j = c then 1 else 0) n = 0 := fun n => by
        induction n with
        | zero => intro _; rfl
        | succ n ih => intro h; simp only [sumU]; rw [ih (by omega), if_neg (by omega)]
      induction m with
      | zero => exact Nat.zero_le _
      | succ m ih =>
        simp only [sumU]
        by_cases e : m = c
        · subst e; rw [none m (Nat.le_refl _), if_pos rfl]; omega
        · rw [if_neg e]; omega
    have h1 : sumU (fun j => (hat M i j).natAbs) (keepN n wo).length ≤ 2 * dg ws ((keepN n wo).getD i 0) + 1 := by
      refine Nat.le_trans (sumU_le fun j hj => hM i j hi hj) ?_
      rw [sumU_add]
      have h2 := hone (keepN n wo).length
      have h3 := keep_sum wo (fun b => (lap ws ((keepN n wo).getD i 0) b).natAbs) n
      have h4 := lap_rows ((keepN n wo).getD i 0) hwf
      rw [sumU_congr (g := fun j => (lap ws ((keepN n wo).getD i 0) ((keepN n wo).getD j 0)).natAbs) fun j hj => by rw [red_hat hi hj]]
      omega
    have h5 := dg_le ws ((keepN n wo).getD i 0)
    exact Nat.le_trans (Nat.mul_le_mul h1 h1) (sq_pow _ (by omega))
  · rw [sumU_add, sumU_const]
    have h1 := keep_sum wo (dg ws) n
    have h2 := dg_sum hwf
    omega

end Go.Proofs.YtkdcldbedbagjaaDoor

/- Contracts: trees, merged, potential of the program. -/
namespace Go.Proofs.YtkdcldbedbagjaaDoor
open Go.Lf Go.RowKit Go.Dt

/-- The package's variable lies there. -/
def Wh (w : World) : Prop := ∀ j u, [fnV 122, fnV 123, fnV 124][j]? = some u → w.cell? ⟨0, 0 + j, none⟩ = some u
theorem Wh.kp {w w' : World} (h : Wh w) (k : Kp w w') : Wh w' := fun j u hu => cell_later k (h j u hu)
theorem Wh.ld {w : World} (h : Wh w) (K : Value → Prop) : ldN 3 w (.pointer (some ⟨0, 0, none⟩)) K = K kV := r_ldCells (n := 3) (l := [fnV 122, fnV 123, fnV 124]) rfl h

/-- A network as the program has it. -/
structure NetOk (n : Nat) (ws : List Wr) : Prop where
  two : 2 ≤ n
  most : n ≤ 8
  few : ws.length ≤ 16
  wf : Wf n ws

theorem net_box {w : World} {b : Nat} {n : Int} {wv : Value} (h : w.heap[b]? = some (.cells #[.int .i64 n, wv] 80 (0, 0))) (K : Value → Prop) : ldN 2 w (ptrV b) K = K (netV n wv) := r_ldRow h rfl

theorem rd_one {w : World} {b : Nat} {x : Int} (h : w.heap[b]? = some (.cells #[.int .i64 x] 3 (0, 0))) : RdInts w (.slice (some ⟨b, 0, none⟩) 1 1) [x] :=
  ⟨_, _, rfl, ⟨by simp, by simp⟩, fun _ => ⟨b, 0, rfl, fun i hi => by
    have : i = 0 := by simpa using hi
    subst this
    rw [cell_row h]; rfl⟩⟩
theorem rd_two {w : World} {b : Nat} {x y : Int} (h : w.heap[b]? = some (.cells #[.int .i64 x, .int .i64 y] 3 (0, 0))) : RdInts w (.slice (some ⟨b, 0, none⟩) 2 2) [x, y] :=
  ⟨_, _, rfl, ⟨by simp, by simp⟩, fun _ => ⟨b, 0, rfl, fun i hi => by
    have : i = 0 ∨ i = 1 := by simp at hi; omega
    rcases this with rfl | rfl <;> (rw [cell_row h]; rfl)⟩⟩
set_option maxRecDepth 100000 in
theorem bs34_2 (x y : Int) (w : World) (K : Value → World → Prop) : bsW Tryd.prog 34 2 [(0, .int .i64 x), (1, .int .i64 y)] w K = K (.slice (some ⟨w.heap.size, 0, none⟩) 2 2) (w.alloc (.cells #[.int .i64 x, .int .i64 y] 3)) := by kernel_rfl

theorem red_det {n : Nat} {ws : List Wr} {wo : List Int} {v : Value} {base : Nat} (w : World) (hN : NetOk n ws) (hlen : (keepN n wo).length ≤ 7) (hm : IMat base w v (redM n wo (lap ws))) (hb : base ≤ w.heap.size) :
    Calls Tryd.prog 70 #[kV, v] w fun e w' => e = .returned (.int .i64 (det (keepN n wo).length (hat (redM n wo (lap ws))))) ∧ Below base w w' := by
  obtain ⟨h1, h2⟩ := red_rowed (M := redM n wo (lap ws)) (c := 1000) hN.wf hN.few hlen fun i j _ _ => Nat.le_add_right _ _
  exact det_calls w hm (red_sized n wo _) (by omega) h1 h2 hb

set_option maxRecDepth 100000 in
theorem trees_calls {n : Nat} {ws : List Wr} {wv : Value} (w : World) (hw : Wh w) (hN : NetOk n ws) (hwv : Rd 2 wN w wv ws) : Calls Tryd.prog 55 #[netV n wv] w fun e w' => e = .returned (.int .i64 (trees n ws)) ∧ Kp w w' := by
  have h2 := hN.two
  have h8 := hN.most
  refine lift55 ?_
  unfold S55
  refine r_box fun b1 w1 e1 s1 h1 k1 => ?_
  refine r_drew fun w2 k2 _ => ?_
  have k02 := Kp.trans k1 k2
  rw [(hw.kp k02).ld, net_box (block_below (show w1.heap[b1]? = some (.cells #[.int .i64 n, wv] 80 (0, 0)) from h1) k2), bs34]
  refine r_keep (below_alloc _) ?_
  have k3 : Kp w2 (w2.alloc (.cells #[.int .i64 0] 3)) := below_alloc _
  have hnew := heap_alloc_new w2 (.cells #[.int .i64 0] 3)
  generalize w2.alloc (.cells #[.int .i64 0] 3) = w3 at *
  have k03 := Kp.trans k02 k3
  refine r_use fok71 (lap_calls w3 (by omega) (rd_one hnew) (by simp) hN.wf hN.few (hwv.kp k03)) rfl ?_
  rintro _ w4 ⟨v, rfl, hm, k4⟩
  refine ⟨_, rfl, r_keep k4 ?_⟩
  have hk : keepN n [(0 : Int)] = keepN n [((0 : Nat) : Int)] := rfl
  have hkl : (keepN n [(0 : Int)]).length = n - 1 := by rw [hk, keep_one_len (by omega)]
  refine r_use fok70 (red_det w4 hN (by omega) hm k4.size) rfl ?_
  rintro _ w5 ⟨rfl, k5⟩
  refine ⟨_, rfl, ?_, Kp.trans k03 (Below.trans k4 k5)⟩
  rw [hkl, show ([(0 : Int)]) = [((0 : Nat) : Int)] from rfl, det_red1 ws (by omega), det_trees hN.wf (by omega)]

set_option maxRecDepth 100000 in
theorem merged_calls {n s t : Nat} {ws : List Wr} {wv : Value} (w : World) (hw : Wh w) (hN : NetOk n ws) (hwv : Rd 2 wN w wv ws) (hs : s < n) (ht : t < n) (hst : s ≠ t) :
    Calls Tryd.prog 56 #[netV n wv, .int .i64 s, .int .i64 t] w fun e w' => e = .returned (.int .i64 (volt n ws s t)) ∧ Kp w w' := by
  have h2 := hN.two
  have h8 := hN.most
  refine lift56 ?_
  unfold S56
  refine r_box fun b1 w1 e1 s1 h1 k1 => ?_
  refine r_drew fun w2 k2 _ => ?_
  have k02 := Kp.trans k1 k2
  rw [(hw.kp k02).ld, net_box (block_below (show w1.heap[b1]? = some (.cells #[.int .i64 n, wv] 80 (0, 0)) from h1) k2), bs34_2]
  refine r_keep (below_alloc _) ?_
  have k3 : Kp w2 (w2.alloc (.cells #[.int .i64 s, .int .i64 t] 3)) := below_alloc _
  have hnew := heap_alloc_new w2 (.cells #[.int .i64 s, .int .i64 t] 3)
  generalize w2.alloc (.cells #[.int .i64 s, .int .i64 t] 3) = w3 at *
  have k03 := Kp.trans k02 k3
  refine r_use fok71 (lap_calls w3 (by omega) (rd_two hnew) (by simp) hN.wf hN.few (hwv.kp k03)) rfl ?_
  rintro _ w4 ⟨v, rfl, hm, k4⟩
  refine ⟨_, rfl, r_keep k4 ?_⟩
  have hkl : (keepN n [(s : Int), (t : Int)]).length = n - 2 := keep_two_len ht hs hst
  refine r_use fok70 (red_det w4 hN (by omega) hm k4.size) rfl ?_
  rintro _ w5 ⟨rfl, k5⟩
  refine ⟨_, rfl, ?_, Kp.trans k03 (Below.trans k4 k5)⟩
  rw [hkl, det_red2 ws ht hs hst, det_volt hN.wf]

/-- The number of a vertex without t. -/
def atN (t v : Nat) : Nat := if t < v then v - 1 else v
theorem sk_atN {t v : Nat} (h : v ≠ t) : sk t (atN t v) = v := by
  unfold sk atN
  split <;> split <;> omega
theorem atN_lt {n t v : Nat} (hv : v < n) (ht : t < n) (h : v ≠ t) : atN t v < n - 1 := by unfold atN; split <;> omega
theorem at_calls {t v b : Nat} (w : World) (hv : v ≤ 1000) (hc : w.cell? ⟨b, 0, none⟩ = some (.int .i64 t)) : Calls Tryd.prog 72 #[.int .i64 v, ptrV b] w fun e w' => e = .returned (.int .i64 (atN t v)) ∧ w = w' := by
  refine lift72 ?_
  unfold S72 atN
  rw [r_ld hc, r_gtr]
  by_cases h : t < v
  · have h' : (t : Int) < (v : Int) := by omega
    simp only [decide_eq_true h', r_condT]
    rw [r_sub _ _ (by omega) (by omega), if_pos h]
    exact ⟨ret_int (by omega), by first | rfl | trivial⟩
  · have h' : ¬ (t : Int) < (v : Int) := by omega
    simp only [h', decide_false, r_condF]
    rw [if_neg h]
    exact ⟨rfl, by first | rfl | trivial⟩

theorem IMatV.bump {base : Nat} {w : World} {v : Value} {vs : List Value} {R : List (List Int)} {n : Nat} (h : IMatV base w v vs R) (hs : Sized n n R) {i j : Nat} (hi : i < n) (hj : j < n) {f : Nat → Nat → Int} (hf : ∀ a b, a < n → b < n → hat R a b = f a b) :
    ∃ d c, vs[i]? = some (.slice (some ⟨d, 0, none⟩) n c) ∧ (∀ K : Value → Prop, (iaS 1 v (.int .i64 i) fun p => ld1 w p K) = K (.slice (some ⟨d, 0, none⟩) n c)) ∧ w.cell? ⟨d, j, none⟩ = some (.int .i64 (f i j)) ∧ w.frozen? ⟨d, j, none⟩ = false ∧ base ≤ d ∧
      ∀ x, ∃ R', IMatV base (w.setCell ⟨d, j, none⟩ (.int .i64 x)) v vs R' ∧ Sized n n R' ∧ ∀ a b, a < n → b < n → hat R' a b = if a = i ∧ b = j then x else f a b := by
  have hlen := hs.1
  have hrow := hs.2 i hi
  obtain ⟨u0, hu0, I0, ld0⟩ := h.ldK (i := i) (by omega)
  obtain ⟨g, cap, q, c, ev, hcell, _, hbq, hq, hfr, ⟨u', hu', hd'⟩, hput⟩ := h.put (i := i) (j := j) (by omega) (by omega)
  have hii : (i : Int).toNat = i := by omega
  have ld1' : ∀ K : Value → Prop, (iaS 1 v (.int .i64 i) fun p => ld1 w p K) = K (.slice (some ⟨q, 0, none⟩) n c) := fun K => by
    rw [ev, r_iaS _ _ _ _ _ _ _ (by omega) (by omega), hii, Nat.mul_one, Nat.zero_add, r_ld hcell, hrow]
  have e : u0 = .slice (some ⟨q, 0, none⟩) n c := by
    have h1 := ld0 fun x => x = u0
    rw [ld1'] at h1
    exact (h1.mpr rfl).symm
  refine ⟨q, c, by rw [hu0, e], ld1', by rw [hq, hf i j hi hj], hfr, hbq, fun x => ⟨_, hput x, put2_sized hs hi x, fun a b ha hb => ?_⟩⟩
  rw [put2_hat _ _ _ _ _ _ (by omega) (by omega)]
  by_cases e : a = i ∧ b = j
  · rw [if_pos e, if_pos e]
  · rw [if_neg e, if_neg e, hf a b ha hb]

set_option maxRecDepth 100000 in
set_option maxHeartbeats 2000000 in
theorem pot_calls {n s t v : Nat} {ws : List Wr} {wv : Value} (w : World) (hw : Wh w) (hN : NetOk n ws) (hwv : Rd 2 wN w wv ws) (hs : s < n) (ht : t < n) (hv : v < n) (hst : s ≠ t) :
    Calls Tryd.prog 57 #[netV n wv, .int .i64 s, .int .i64 t, .int .i64 v] w fun e w' => e = .returned (.int .i64 (pot n ws s t v)) ∧ Kp w w' := by
  have h2 := hN.two
  have h8 := hN.most
  refine lift57 ?_
  unfold S57
  refine r_box fun b4 w1 e1 s1 h1 k1 => ?_
  refine r_box fun b6 w2 e2 s2 h2' k2 => ?_
  have h6 : w2.heap[b6]? = some (.cells #[.int .i64 t] 3 (0, 0)) := h2'
  have k02 := Kp.trans k1 k2
  have c6 : w2.cell? ⟨b6, 0, none⟩ = some (.int .i64 t) := by rw [cell_row h6]; rfl
  rw [r_ld c6, r_eql]
  by_cases hvt : v = t
  · have hvt' : (v : Int) = (t : Int) := by omega
    simp only [decide_eq_true hvt', r_condT]
    refine ⟨ret_int ?_, k02⟩
    rw [hvt, pot_t]; rfl
  have hvt' : ¬ (v : Int) = (t : Int) := by omega
  simp only [hvt', decide_false, r_condF]
  rw [net_box (block_below (show w1.heap[b4]? = some (.cells #[.int .i64 n, wv] 80 (0, 0)) from h1) k2), r_ld c6, bs34]
  have k3 : Kp w2 (w2.alloc (.cells #[.int .i64 t] 3)) := below_alloc _
  have hnew := heap_alloc_new w2 (.cells #[.int .i64 t] 3)
  generalize w2.alloc (.cells #[.int .i64 t] 3) = w3 at *
  have k03 := Kp.trans k02 k3
  refine r_use fok71 (lap_calls w3 (by omega) (rd_one hnew) (by simp) hN.wf hN.few (hwv.kp k03)) rfl ?_
  rintro _ w4 ⟨m, rfl, hm, k4⟩
  refine ⟨_, rfl, ?_⟩
  have k04 := Kp.trans k03 k4
  have c64 := cell_later (Kp.trans k3 k4) c6
  obtain ⟨ma, mc, em, _⟩ := hm.len
  have hkl : (keepN n [(t : Int)]).length = n - 1 := keep_one_len ht
  have hsz := red_sized n [(t : Int)] (lap ws)
  rw [hkl] at hsz
  have lnm : ∀ K : Value → Prop, ln1 m K = K (.int .i64 ((n - 1 : Nat) : Int)) := fun K => by rw [em, hsz.1]; rfl
  have hav := atN_lt hv ht hvt
  have has := atN_lt hs ht hst
  rw [lnm]
  unfold S57L0
  refine ⟨fun t23 wr => ∃ (i : Nat) (vs : List Value) (M : List (List Int)), i ≤ n - 1 ∧ t23 = .int .i64 i ∧ IMatV w3.heap.size wr m vs M ∧ Sized (n - 1) (n - 1) M ∧ (∀ a b, a < n - 1 → b < n - 1 → hat M a b = if a < i ∧ b = atN t v then (if a = atN t s then 1 else 0) else hat (redM n [(t : Int)] (lap ws)) a b) ∧ Kp w3 wr, fun t23 _ => n - 1 - (intOf t23).toNat,
    (let ⟨vs, hm⟩ := hm; ⟨0, vs, _, by omega, rfl, hm, hsz, fun a b _ _ => by rw [if_neg (by omega)], k4⟩), ?_⟩
  rintro _ _ wr ⟨i, vs, M, hi, rfl, hM, hS, hH, kr⟩
  have k0r := Kp.trans k03 kr
  have hszr := kr.size
  by_cases hlt : i < n - 1
  case neg =>
    have hlt' : ¬ (i : Int) < ((n - 1 : Nat) : Int) := by omega
    simp only [r_lss, hlt', decide_false, r_condF]
    rw [(hw.kp k0r).ld]
    have hH' : ∀ a b, a < n - 1 → b < n - 1 → hat M a b = if b = atN t v then (if a = atN t s then 1 else 0) else hat (redM n [(t : Int)] (lap ws)) a b := fun a b ha hb => by
      rw [hH a b ha hb]
      by_cases e : b = atN t v
      · rw [if_pos ⟨by omega, e⟩, if_pos e]
      · rw [if_neg (fun h => e h.2), if_neg e]
    obtain ⟨q1, q2⟩ := red_rowed (wo := [(t : Int)]) (M := M) (c := atN t v) hN.wf hN.few (by omega) fun a b ha hb => by
      rw [hkl] at ha hb
      rw [hH' a b ha hb]
      by_cases e : b = atN t v
      · rw [if_pos e, if_pos e]; split <;> simp
      · rw [if_neg e, if_neg e]; exact Nat.le_refl _
    rw [hkl] at q1 q2
    refine r_use fok70 (det_calls (n := n - 1) wr ⟨vs, hM⟩ hS (by omega) q1 q2 hszr) rfl ?_
    rintro _ w5 ⟨rfl, k5⟩
    refine ⟨_, rfl, ?_, Kp.trans k03 (Below.trans kr k5)⟩
    rw [det_cramer ws ht (sk_atN hst) (sk_atN hvt) hvt hH', det_pot hN.wf hs hv hst hvt]
  have hlt' : (i : Int) < ((n - 1 : Nat) : Int) := by omega
  simp only [r_lss, decide_eq_true hlt', r_condT]
  have c6r := cell_later (Kp.trans k3 kr) c6
  have hb6 : b6 < w3.heap.size := by
    have := block_lt (block_below h6 k3); exact this
  obtain ⟨d, c, hvs, lu, cd, fd, hbd, hput⟩ := hM.bump hS hlt hav hH
  have hvv : ((atN t v : Nat) : Int).toNat = atN t v := by omega
  have iu : ∀ K : Value → Prop, iaS 1 (.slice (some ⟨d, 0, none⟩) (n - 1) c) (.int .i64 (atN t v)) K = K (.pointer (some ⟨d, atN t v, none⟩)) := fun K => by
    rw [r_iaS _ _ _ _ _ _ _ (by omega) (by omega), hvv, Nat.mul_one, Nat.zero_add]
  rw [lu]
  refine r_use fok72 (at_calls wr (by omega) c6r) rfl ?_
  rintro _ _ ⟨rfl, rfl⟩
  refine ⟨_, rfl, ?_⟩
  rw [iu, st3 cd fd]
  obtain ⟨M1, hM1, hS1, hH1⟩ := hput 0
  have hch1 : Chg (fun k => k = d) wr (wr.setCell ⟨d, atN t v, none⟩ (.int .i64 0)) := Chg.setCell _ _ rfl
  have k5 : Kp w3 (wr.setCell ⟨d, atN t v, none⟩ (.int .i64 0)) := Kp.of_chg kr hch1 fun k e => by omega
  have c65 := hch1.cell c6r (show ¬ b6 = d by omega)
  generalize wr.setCell ⟨d, atN t v, none⟩ (.int .i64 0) = w5 at *
  refine r_use fok72 (at_calls w5 (by omega) c65) rfl ?_
  rintro _ _ ⟨rfl, rfl⟩
  refine ⟨_, rfl, ?_⟩
  rw [r_eql]
  have hnext : ∀ (w6 : World) (M' : List (List Int)), IMatV w3.heap.size w6 m vs M' → Sized (n - 1) (n - 1) M' → (∀ a b, a < n - 1 → b < n - 1 → hat M' a b = if a = i ∧ b = atN t v then (if i = atN t s then 1 else 0) else if a < i ∧ b = atN t v then (if a = atN t s then 1 else 0) else hat (redM n [(t : Int)] (lap ws)) a b) → Kp w3 w6 →
      (binQ Tryd.prog w6 .add 3 true (.int .i64 i) (.int .i64 1) fun t43_2 => (∃ (i : Nat) (vs : List Value) (M : List (List Int)), i ≤ n - 1 ∧ t43_2 = .int .i64 i ∧ IMatV w3.heap.size w6 m vs M ∧ Sized (n - 1) (n - 1) M ∧ (∀ a b, a < n - 1 → b < n - 1 → hat M a b = if a < i ∧ b = atN t v then (if a = atN t s then 1 else 0) else hat (redM n [(t : Int)] (lap ws)) a b) ∧ Kp w3 w6) ∧ n - 1 - (intOf t43_2).toNat < n - 1 - (intOf (.int .i64 (i : Int))).toNat) := fun w6 M' h1 h2 h3 h4 => by
    rw [r_add _ _ (by omega) (by omega)]
    refine ⟨⟨i + 1, vs, M', by omega, by go_num, h1, h2, fun a b ha hb => ?_, h4⟩, by simp only [intOf]; omega⟩
    rw [h3 a b ha hb]
    by_cases e : a = i ∧ b = atN t v
    · rw [if_pos e, if_pos (show a < i + 1 ∧ b = atN t v from ⟨by omega, e.2⟩), e.1]
    · rw [if_neg e]
      by_cases e' : a < i ∧ b = atN t v
      · rw [if_pos e', if_pos (show a < i + 1 ∧ b = atN t v from ⟨by omega, e'.2⟩)]
      · rw [if_neg e', if_neg (show ¬ (a < i + 1 ∧ b = atN t v) by omega)]
  refine r_join0 (fun w6 => ∃ M', IMatV w3.heap.size w6 m vs M' ∧ Sized (n - 1) (n - 1) M' ∧ (∀ a b, a < n - 1 → b < n - 1 → hat M' a b = if a = i ∧ b = atN t v then (if i = atN t s then 1 else 0) else if a < i ∧ b = atN t v then (if a = atN t s then 1 else 0) else hat (redM n [(t : Int)] (lap ws)) a b) ∧ Kp w3 w6) ?_ fun kk hkk => ?_
  · rintro w6 ⟨M', h1, h2, h3, h4⟩
    exact hnext w6 M' h1 h2 h3 h4
  by_cases hs' : i = atN t s
  case neg =>
    have hs'' : ¬ (i : Int) = ((atN t s : Nat) : Int) := by omega
    simp only [hs'', decide_false, r_condF]
    rw [if_neg hs'] at hkk
    exact hkk _ ⟨M1, hM1, hS1, hH1, k5⟩
  have hs'' : (i : Int) = ((atN t s : Nat) : Int) := by omega
  simp only [decide_eq_true hs'', r_condT]
  rw [if_pos hs'] at hkk
  refine r_use fok72 (at_calls w5 (by omega) c65) rfl ?_
  rintro _ _ ⟨rfl, rfl⟩
  refine ⟨_, rfl, ?_⟩
  obtain ⟨d', c', hvs', _, cd', fd', hbd', hput'⟩ := hM1.bump hS1 hlt hav hH1
  rw [hvs] at hvs'
  cases hvs'
  rw [iu, st3 cd' fd']
  obtain ⟨M2, hM2, hS2, hH2⟩ := hput' 1
  refine hkk _ ⟨M2, hM2, hS2, fun a b ha hb => ?_, Kp.of_chg k5 (Chg.setCell (S := fun k => k = d) w5 (p := ⟨d, atN t v, none⟩) _ rfl) fun k e => by omega⟩
  rw [hH2 a b ha hb]
  by_cases e : a = i ∧ b = atN t v
  · rw [if_pos e, if_pos e]
  · rw [if_neg e, if_neg e, if_neg e]

end Go.Proofs.YtkdcldbedbagjaaDoor

/- Contracts: of, between, Trees, Merged of the program; the errors of a network. -/
namespace Go.Proofs.YtkdcldbedbagjaaDoor
open Go.Lf Go.RowKit Go.Dt

abbrev RdW (w : World) (v : Value) (L : List (Int × Int)) : Prop := Rd 2 wC w v L

def badB (n : Int) (e : Int × Int) : Bool := decide (e.1 < 0) || decide (n ≤ e.1) || decide (e.2 < 0) || decide (n ≤ e.2) || decide (e.1 = e.2)
def netErr (n : Int) (L : List (Int × Int)) : Int := if n < 2 ∨ 8 < n then 2 else if 16 < L.length then 3 else if L.any (badB n) = true then 2 else 0
def endErr (n : Int) (L : List (Int × Int)) (s t : Int) : Int := if netErr n L = 0 then (if s < 0 ∨ n ≤ s ∨ t < 0 ∨ n ≤ t ∨ s = t then 2 else 0) else netErr n L
def natW (e : Int × Int) : Wr := (e.1.toNat, e.2.toNat)

theorem netErr_cases (n : Int) (L : List (Int × Int)) : netErr n L = 0 ∨ netErr n L = 2 ∨ netErr n L = 3 := by
  unfold netErr; split
  · exact .inr (.inl rfl)
  · split
    · exact .inr (.inr rfl)
    · split
      · exact .inr (.inl rfl)
      · exact .inl rfl
theorem net_ok {n : Int} {L : List (Int × Int)} (h : netErr n L = 0) : ∃ N : Nat, n = N ∧ NetOk N (L.map natW) ∧ ∀ e ∈ L, wN (natW e) = wC e := by
  unfold netErr at h
  by_cases h1 : n < 2 ∨ 8 < n
  · rw [if_pos h1] at h; cases h
  by_cases h2 : 16 < L.length
  · rw [if_neg h1, if_pos h2] at h; cases h
  by_cases h3 : L.any (badB n) = true
  · rw [if_neg h1, if_neg h2, if_pos h3] at h; cases h
  have hb : ∀ e ∈ L, 0 ≤ e.1 ∧ e.1 < n ∧ 0 ≤ e.2 ∧ e.2 < n ∧ e.1 ≠ e.2 := fun e he => by
    have : ¬ badB n e = true := fun hb => h3 (List.any_eq_true.2 ⟨e, he, hb⟩)
    simp only [badB, Bool.or_eq_true, decide_eq_true_eq] at this
    omega
  refine ⟨n.toNat, by omega, ⟨by omega, by omega, by rw [List.length_map]; omega, fun x hx => ?_⟩, fun e he => ?_⟩
  · obtain ⟨e, he, rfl⟩ := List.mem_map.1 hx
    have := hb e he
    simp only [natW]
    omega
  · have := hb e he
    simp only [wN, wC, natW]
    rw [show ((e.1.toNat : Nat) : Int) = e.1 by omega, show ((e.2.toNat : Nat) : Int) = e.2 by omega]
theorem RdW.nat {w : World} {v : Value} {L : List (Int × Int)} (h : RdW w v L) (hb : ∀ e ∈ L, wN (natW e) = wC e) : Rd 2 wN w v (L.map natW) := Rd.map h hb
theorem end_ok {n : Int} {L : List (Int × Int)} {s t : Int} (h : endErr n L s t = 0) : netErr n L = 0 ∧ ∃ S T : Nat, s = S ∧ t = T ∧ (S : Int) < n ∧ (T : Int) < n ∧ S ≠ T := by
  unfold endErr at h
  by_cases h1 : netErr n L = 0
  · rw [if_pos h1] at h
    by_cases h2 : s < 0 ∨ n ≤ s ∨ t < 0 ∨ n ≤ t ∨ s = t
    · rw [if_pos h2] at h; cases h
    · exact ⟨h1, s.toNat, t.toNat, by omega, by omega, by omega, by omega, by omega⟩
  · rw [if_neg h1] at h; exact absurd h h1

/-! ### boxes of two and three cells -/
set_option maxRecDepth 100000 in
theorem st80 {w : World} {b : Nat} {x y : Value} {n : Int} {a : Option Addr} {m c : Nat} {K : World → Prop} (h : w.heap[b]? = some (.cells #[x, y] 80 (0, 0))) (hk : ∀ w', Chg (fun k => k = b) w w' → w'.heap.size = w.heap.size → w'.heap[b]? = some (.cells #[.int .i64 n, .slice a m c] 80 (0, 0)) → K w') : stW Tryd.prog 80 (ptrV b) (netV n (.slice a m c)) w K :=
  r_stAll (n := 2) (by kernel_rfl) rfl (by intro u hu; simp [Value.cells] at hu; rcases hu with rfl | rfl <;> rfl) h rfl fun w' h1 h2 h3 => hk w' h1 h2 h3
set_option maxRecDepth 100000 in
theorem st58 {w : World} {b : Nat} {x y : Value} {p q : Int} {K : World → Prop} (h : w.heap[b]? = some (.cells #[x, y] 58 (0, 0))) (hk : ∀ w', Chg (fun k => k = b) w w' → w'.heap.size = w.heap.size → w'.heap[b]? = some (.cells #[.int .i64 p, .int .i64 q] 58 (0, 0)) → K w') : stW Tryd.prog 58 (ptrV b) (wV p q) w K :=
  r_stAll (n := 2) (by kernel_rfl) rfl (by intro u hu; simp [Value.cells] at hu; rcases hu with rfl | rfl <;> rfl) h rfl fun w' h1 h2 h3 => hk w' h1 h2 h3
abbrev flV (cv : Value) (t v : Int) : Value := .agg #[cv, .int .i64 t, .int .i64 v]
set_option maxRecDepth 100000 in
theorem st36 {w : World} {b : Nat} {x y z : Value} {p q : Int} {a : Option Addr} {m c : Nat} {K : World → Prop} (h : w.heap[b]? = some (.cells #[x, y, z] 36 (0, 0))) (hk : ∀ w', Chg (fun k => k = b) w w' → w'.heap.size = w.heap.size → w'.heap[b]? = some (.cells #[.slice a m c, .int .i64 p, .int .i64 q] 36 (0, 0)) → K w') : stW Tryd.prog 36 (ptrV b) (flV (.slice a m c) p q) w K :=
  r_stAll (n := 3) (by kernel_rfl) rfl (by intro u hu; simp [Value.cells] at hu; rcases hu with rfl | rfl | rfl <;> rfl) h rfl fun w' h1 h2 h3 => hk w' h1 h2 h3
set_option maxRecDepth 100000 in
theorem bd80_0 {K : Value → Prop} : bdQ Tryd.prog 80 [] K = K (netV 0 nilS) := by kernel_rfl
set_option maxRecDepth 100000 in
theorem bd80 {n : Int} {a : Option Addr} {m c : Nat} {K : Value → Prop} : bdQ Tryd.prog 80 [(0, .int .i64 n), (1, .slice a m c)] K = K (netV n (.slice a m c)) := by kernel_rfl
set_option maxRecDepth 100000 in
theorem bd58_0 {K : Value → Prop} : bdQ Tryd.prog 58 [] K = K (wV 0 0) := by kernel_rfl
set_option maxRecDepth 100000 in
theorem bd58 {x y : Int} {K : Value → Prop} : bdQ Tryd.prog 58 [(0, .int .i64 x), (1, .int .i64 y)] K = K (wV x y) := by kernel_rfl
set_option maxRecDepth 100000 in
theorem bd36_0 {K : Value → Prop} : bdQ Tryd.prog 36 [] K = K (flV nilS 0 0) := by kernel_rfl
set_option maxRecDepth 100000 in
theorem bd36 {x y : Int} {K : Value → Prop} : bdQ Tryd.prog 36 [(1, .int .i64 x), (2, .int .i64 y)] K = K (flV nilS x y) := by kernel_rfl

/-! ### the wires -/
set_option maxRecDepth 100000 in
theorem bad_calls {n a b : Int} {q : Nat} (w : World) (hc : w.cell? ⟨q, 0, none⟩ = some (.int .i64 n)) : Calls Tryd.prog 74 #[wV a b, ptrV q] w fun e w' => e = .returned (.bool (badB n (a, b))) ∧ Kp w w' := by
  refine lift74 ?_
  unfold S74
  refine r_box fun b2 w1 e1 s1 h1 k1 => ?_
  have h1' : w1.heap[b2]? = some (.cells #[.int .i64 a, .int .i64 b] 40 (0, 0)) := h1
  have cA : w1.cell? ⟨b2, 0 + 0, none⟩ = some (.int .i64 a) := by rw [cell_row h1']; rfl
  have cB : w1.cell? ⟨b2, 0 + 1, none⟩ = some (.int .i64 b) := by rw [cell_row h1']; rfl
  have cn := cell_later k1 hc
  unfold badB
  by_cases g1 : a < 0
  · simp (disch := omega) only [r_ln, r_pick, r_pickT, r_pickF, r_condT, r_condF, r_gdTT, r_gdFF, r_gdTF, r_gdFT, r_gqTT, r_gqFF, r_gqTF, r_gqFT, r_not, r_lss, r_leq, r_gtr, r_geq, r_eql, r_neq, r_add, r_sub, r_min2, r_max2, r_min3, r_max3, r_fa, r_iaS, r_iaA, r_ex2a, r_ex2b, r_ex3a, r_ex3b, r_ex3c, r_nc, r_keepE, Nat.zero_add, Nat.add_zero, Nat.mul_one, Int.toNat_natCast, toNat_sub1, toNat_add1, decide_true, decide_false, Bool.not_true, Bool.not_false, if_true, if_false, Bool.false_eq_true, reduceCtorEq, r_ld cA, r_ld cB, r_ld cn, r_gdU, decide_eq_true g1, Bool.true_or]
    exact ⟨by first | rfl | trivial, k1⟩
  by_cases g2 : n ≤ a
  · simp (disch := omega) only [r_ln, r_pick, r_pickT, r_pickF, r_condT, r_condF, r_gdTT, r_gdFF, r_gdTF, r_gdFT, r_gqTT, r_gqFF, r_gqTF, r_gqFT, r_not, r_lss, r_leq, r_gtr, r_geq, r_eql, r_neq, r_add, r_sub, r_min2, r_max2, r_min3, r_max3, r_fa, r_iaS, r_iaA, r_ex2a, r_ex2b, r_ex3a, r_ex3b, r_ex3c, r_nc, r_keepE, Nat.zero_add, Nat.add_zero, Nat.mul_one, Int.toNat_natCast, toNat_sub1, toNat_add1, decide_true, decide_false, Bool.not_true, Bool.not_false, if_true, if_false, Bool.false_eq_true, reduceCtorEq, r_ld cA, r_ld cB, r_ld cn, r_gdU, g1, decide_eq_true g2, Bool.true_or, Bool.or_true, Bool.false_or]
    exact ⟨by first | rfl | trivial, k1⟩
  by_cases g3 : b < 0
  · simp (disch := omega) only [r_ln, r_pick, r_pickT, r_pickF, r_condT, r_condF, r_gdTT, r_gdFF, r_gdTF, r_gdFT, r_gqTT, r_gqFF, r_gqTF, r_gqFT, r_not, r_lss, r_leq, r_gtr, r_geq, r_eql, r_neq, r_add, r_sub, r_min2, r_max2, r_min3, r_max3, r_fa, r_iaS, r_iaA, r_ex2a, r_ex2b, r_ex3a, r_ex3b, r_ex3c, r_nc, r_keepE, Nat.zero_add, Nat.add_zero, Nat.mul_one, Int.toNat_natCast, toNat_sub1, toNat_add1, decide_true, decide_false, Bool.not_true, Bool.not_false, if_true, if_false, Bool.false_eq_true, reduceCtorEq, r_ld cA, r_ld cB, r_ld cn, r_gdU, g1, g2, decide_eq_true g3, Bool.true_or, Bool.or_true, Bool.false_or]
    exact ⟨by first | rfl | trivial, k1⟩
  by_cases g4 : n ≤ b
  · simp (disch := omega) only [r_ln, r_pick, r_pickT, r_pickF, r_condT, r_condF, r_gdTT, r_gdFF, r_gdTF, r_gdFT, r_gqTT, r_gqFF, r_gqTF, r_gqFT, r_not, r_lss, r_leq, r_gtr, r_geq, r_eql, r_neq, r_add, r_sub, r_min2, r_max2, r_min3, r_max3, r_fa, r_iaS, r_iaA, r_ex2a, r_ex2b, r_ex3a, r_ex3b, r_ex3c, r_nc, r_keepE, Nat.zero_add, Nat.add_zero, Nat.mul_one, Int.toNat_natCast, toNat_sub1, toNat_add1, decide_true, decide_false, Bool.not_true, Bool.not_false, if_true, if_false, Bool.false_eq_true, reduceCtorEq, r_ld cA, r_ld cB, r_ld cn, r_gdU, g1, g2, g3, decide_eq_true g4, Bool.true_or, Bool.or_true, Bool.false_or]
    exact ⟨by first | rfl | trivial, k1⟩
  simp (disch := omega) only [r_ln, r_pick, r_pickT, r_pickF, r_condT, r_condF, r_gdTT, r_gdFF, r_gdTF, r_gdFT, r_gqTT, r_gqFF, r_gqTF, r_gqFT, r_not, r_lss, r_leq, r_gtr, r_geq, r_eql, r_neq, r_add, r_sub, r_min2, r_max2, r_min3, r_max3, r_fa, r_iaS, r_iaA, r_ex2a, r_ex2b, r_ex3a, r_ex3b, r_ex3c, r_nc, r_keepE, Nat.zero_add, Nat.add_zero, Nat.mul_one, Int.toNat_natCast, toNat_sub1, toNat_add1, decide_true, decide_false, Bool.not_true, Bool.not_false, if_true, if_false, Bool.false_eq_true, reduceCtorEq, r_ld cA, r_ld cB, r_ld cn, r_gdU, g1, g2, g3, g4, Bool.false_or]
  exact ⟨by first | rfl | trivial, k1⟩

theorem wireZ_at {w : World} {v : Value} {L : List (Int × Int)} (h : RdW w v L) {i : Nat} (hi : i < L.length) : ∀ K : Value → Prop, (iaS 2 v (.int .i64 i) fun p => ldN 2 w p K) = K (wV (L.getD i (0, 0)).1 (L.getD i (0, 0)).2) := fun K => by
  obtain ⟨b, off, cap, e, _, hc⟩ := h.at (List.getElem?_eq_getElem hi)
  have hii : (i : Int).toNat = i := by omega
  rw [e, r_iaS _ _ _ _ _ _ _ (by omega) (by omega), hii, r_ldCells (n := 2) (l := wC L[i]) rfl hc, getD_lt _ _ _ hi]
  rfl

set_option maxRecDepth 100000 in
theorem anybad_calls {v : Value} {L : List (Int × Int)} {n : Int} {q : Nat} (w : World) (hr : RdW w v L) (hl : L.length ≤ 1000) (hc : w.cell? ⟨q, 0, none⟩ = some (.int .i64 n)) :
    Calls Tryd.prog 73 #[v, .func (.func 74) #[] #[ptrV q]] w fun e w' => e = .returned (.bool (L.any (badB n))) ∧ Kp w w' := by
  obtain ⟨a, cap, ev, _⟩ := hr.len
  have lnv : ∀ K : Value → Prop, ln1 v K = K (.int .i64 L.length) := fun K => by rw [ev]; rfl
  have h87 : Calls Tryd.prog 87 #[v, .func (.func 74) #[] #[ptrV q]] w fun e w' => Kp w w' ∧ ∃ p : Int, e = .returned (.int .i64 p) ∧ (0 ≤ p ↔ L.any (badB n) = true) := by
    refine lift87 ?_
    unfold S87 S87L0
    rw [lnv]
    refine ⟨fun t8 wr => ∃ j : Nat, j ≤ L.length ∧ t8 = .int .i64 j ∧ (∀ e ∈ L.take j, badB n e = false) ∧ Kp w wr, fun t8 _ => L.length - (intOf t8).toNat, ⟨0, by omega, rfl, by simp, Kp.refl _⟩, ?_⟩
    rintro _ _ wr ⟨j, hj, rfl, hz, kr⟩
    by_cases hlt : j < L.length
    case neg =>
      have hlt' : ¬ (j : Int) < (L.length : Int) := by omega
      simp only [r_lss, hlt', decide_false, r_condF]
      rw [List.take_of_length_le (by omega)] at hz
      refine ⟨kr, _, rfl, ⟨fun h => by omega, fun h => ?_⟩⟩
      obtain ⟨e, he, hb⟩ := List.any_eq_true.1 h
      rw [hz e he] at hb; cases hb
    have hlt' : (j : Int) < (L.length : Int) := by omega
    simp only [r_lss, decide_eq_true hlt', r_condT]
    rw [wireZ_at (hr.kp kr) hlt]
    refine r_use fok74 (bad_calls wr (cell_later kr hc)) rfl ?_
    rintro _ w2 ⟨rfl, k2⟩
    refine ⟨_, rfl, ?_⟩
    cases hb : badB n ((L.getD j (0, 0)).1, (L.getD j (0, 0)).2) with
    | true =>
      simp only [r_condT]
      exact ⟨Kp.trans kr k2, _, rfl, ⟨fun _ => List.any_eq_true.2 ⟨_, getD_mem hlt, hb⟩, fun _ => by omega⟩⟩
    | false =>
      simp only [r_condF]
      rw [r_add _ _ (by omega) (by omega)]
      refine ⟨⟨j + 1, by omega, by go_num, fun e hm => ?_, Kp.trans kr k2⟩, by simp only [intOf]; omega⟩
      rw [take_succ' _ _ hlt] at hm
      rcases List.mem_append.1 hm with h | h
      · exact hz e h
      · simp at h
        rw [h, ← getD_lt _ _ (0, 0) hlt]; exact hb
  refine lift73 ?_
  unfold S73
  refine r_use fok87 h87 rfl ?_
  rintro _ w1 ⟨k1, p, rfl, hp⟩
  refine ⟨_, rfl, ?_⟩
  rw [r_geq]
  refine ⟨ret_bool ?_, k1⟩
  cases hb : L.any (badB n) with
  | true => exact decide_eq_true (hp.2 hb)
  | false => exact decide_eq_false fun h => by rw [hp.1 h] at hb; cases hb

set_option maxRecDepth 100000 in
set_option maxHeartbeats 1000000 in
theorem of_calls {v : Value} {L : List (Int × Int)} {n : Int} (w : World) (hr : RdW w v L) : Calls Tryd.prog 58 #[.int .i64 n, v] w fun e w' => Kp w w' ∧ e = .returned (.tuple #[if netErr n L = 0 then netV n v else netV 0 nilS, .int .i64 (netErr n L)]) := by
  obtain ⟨a, cap, ev, _⟩ := hr.len
  subst ev
  refine lift58 ?_
  unfold S58
  refine r_box fun b2 w1 e1 s1 h1 k1 => ?_
  refine r_box fun b4 w2 e2 s2 h2 k2 => ?_
  have k02 := Kp.trans k1 k2
  have h1' : w1.heap[b2]? = some (.cells #[.int .i64 n] 3 (0, 0)) := h1
  have h2' : w2.heap[b4]? = some (.cells #[.int .i64 0, .slice none 0 0] 80 (0, 0)) := h2
  have h12 := block_below h1' k2
  have cn : w2.cell? ⟨b2, 0, none⟩ = some (.int .i64 n) := by rw [cell_row h12]; rfl
  have empty : ∀ (w' : World) (K : Value → World → Prop) (y : Int), w2.heap.size ≤ w'.heap.size → Kp w2 w' → (∀ w'', Kp w w'' → K (netV 0 nilS) w'') → stW Tryd.prog 80 (ptrV b4) (netV 0 nilS) w' fun w => ldN 2 w (ptrV b4) fun r => K r w := fun w' K y hsz k hK => by
    refine st80 (block_below h2' k) fun w3 c3 s3 h3 => ?_
    rw [net_box h3]
    exact hK w3 (Kp.of_chg (Kp.trans k02 k) c3 fun q e => by omega)
  by_cases g1 : n < 2
  · have hE : netErr n L = 2 := by unfold netErr; rw [if_pos (.inl g1)]
    rw [hE]
    simp (disch := omega) only [r_ln, r_pick, r_pickT, r_pickF, r_condT, r_condF, r_gdTT, r_gdFF, r_gdTF, r_gdFT, r_gqTT, r_gqFF, r_gqTF, r_gqFT, r_not, r_lss, r_leq, r_gtr, r_geq, r_eql, r_neq, r_add, r_sub, r_min2, r_max2, r_min3, r_max3, r_fa, r_iaS, r_iaA, r_ex2a, r_ex2b, r_ex3a, r_ex3b, r_ex3c, r_nc, r_keepE, Nat.zero_add, Nat.add_zero, Nat.mul_one, Int.toNat_natCast, toNat_sub1, toNat_add1, decide_true, decide_false, Bool.not_true, Bool.not_false, if_true, if_false, Bool.false_eq_true, reduceCtorEq, r_ld cn, r_gdU, decide_eq_true g1]
    rw [bd80_0]
    refine empty w2 (fun r w => Kp _ w ∧ _) 0 (Nat.le_refl _) (Kp.refl _) fun w'' k => ⟨k, rfl⟩
  by_cases g2 : 8 < n
  · have hE : netErr n L = 2 := by unfold netErr; rw [if_pos (.inr g2)]
    rw [hE]
    simp (disch := omega) only [r_ln, r_pick, r_pickT, r_pickF, r_condT, r_condF, r_gdTT, r_gdFF, r_gdTF, r_gdFT, r_gqTT, r_gqFF, r_gqTF, r_gqFT, r_not, r_lss, r_leq, r_gtr, r_geq, r_eql, r_neq, r_add, r_sub, r_min2, r_max2, r_min3, r_max3, r_fa, r_iaS, r_iaA, r_ex2a, r_ex2b, r_ex3a, r_ex3b, r_ex3c, r_nc, r_keepE, Nat.zero_add, Nat.add_zero, Nat.mul_one, Int.toNat_natCast, toNat_sub1, toNat_add1, decide_true, decide_false, Bool.not_true, Bool.not_false, if_true, if_false, Bool.false_eq_true, reduceCtorEq, r_ld cn, r_gdU, g1, decide_eq_true g2]
    rw [bd80_0]
    refine empty w2 (fun r w => Kp _ w ∧ _) 0 (Nat.le_refl _) (Kp.refl _) fun w'' k => ⟨k, rfl⟩
  have h12n : ¬ (n < 2 ∨ 8 < n) := by omega
  by_cases g3 : (16 : Int) < (L.length : Int)
  · have hE : netErr n L = 3 := by unfold netErr; rw [if_neg h12n, if_pos (by omega)]
    rw [hE]
    simp (disch := omega) only [r_ln, r_pick, r_pickT, r_pickF, r_condT, r_condF, r_gdTT, r_gdFF, r_gdTF, r_gdFT, r_gqTT, r_gqFF, r_gqTF, r_gqFT, r_not, r_lss, r_leq, r_gtr, r_geq, r_eql, r_neq, r_add, r_sub, r_min2, r_max2, r_min3, r_max3, r_fa, r_iaS, r_iaA, r_ex2a, r_ex2b, r_ex3a, r_ex3b, r_ex3c, r_nc, r_keepE, Nat.zero_add, Nat.add_zero, Nat.mul_one, Int.toNat_natCast, toNat_sub1, toNat_add1, decide_true, decide_false, Bool.not_true, Bool.not_false, if_true, if_false, Bool.false_eq_true, reduceCtorEq, r_ld cn, r_gdU, g1, g2, decide_eq_true g3]
    rw [bd80_0]
    refine empty w2 (fun r w => Kp _ w ∧ _) 0 (Nat.le_refl _) (Kp.refl _) fun w'' k => ⟨k, rfl⟩
  have hE : netErr n L = if L.any (badB n) = true then 2 else 0 := by unfold netErr; rw [if_neg h12n, if_neg (by omega)]
  generalize netErr n L = E at *
  simp (disch := omega) only [r_ln, r_pick, r_pickT, r_pickF, r_condT, r_condF, r_gdTT, r_gdFF, r_gdTF, r_gdFT, r_gqTT, r_gqFF, r_gqTF, r_gqFT, r_not, r_lss, r_leq, r_gtr, r_geq, r_eql, r_neq, r_add, r_sub, r_min2, r_max2, r_min3, r_max3, r_fa, r_iaS, r_iaA, r_ex2a, r_ex2b, r_ex3a, r_ex3b, r_ex3c, r_nc, r_keepE, Nat.zero_add, Nat.add_zero, Nat.mul_one, Int.toNat_natCast, toNat_sub1, toNat_add1, decide_true, decide_false, Bool.not_true, Bool.not_false, if_true, if_false, Bool.false_eq_true, reduceCtorEq, r_ld cn, r_gdU, g1, g2, g3]
  refine r_use fok73 (anybad_calls w2 (hr.kp k02) (by omega) cn) rfl ?_
  rintro _ w3 ⟨rfl, k3⟩
  refine ⟨_, rfl, ?_⟩
  have c3 := cell_later k3 cn
  cases hb : L.any (badB n) with
  | true =>
    rw [hb, if_pos rfl] at hE
    rw [hE]
    simp only [r_condT]
    rw [bd80_0]
    refine empty w3 (fun r w => Kp _ w ∧ _) 0 k3.size k3 fun w'' k => ⟨k, rfl⟩
  | false =>
    rw [hb, if_neg (by decide)] at hE
    rw [hE]
    simp only [r_condF]
    rw [r_ld c3, bd80]
    refine st80 (block_below h2' k3) fun w4 c4 s4 h4 => ?_
    rw [net_box h4]
    refine ⟨Kp.of_chg (Kp.trans k02 k3) c4 fun q e => by omega, ?_⟩
    rfl

end Go.Proofs.YtkdcldbedbagjaaDoor
