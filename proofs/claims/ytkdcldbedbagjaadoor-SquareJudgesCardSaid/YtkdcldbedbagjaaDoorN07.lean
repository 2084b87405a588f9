/- Texts of my own, merged by program: Kc Kd Ke. -/
import Derived.Test.YtkdcldbedbagjaaDoorN06
set_option linter.all false
/- Contracts: slices.Contains at integers, the Laplacian of the program. -/
namespace Go.Proofs.YtkdcldbedbagjaaDoor
open Go.Lf Go.RowKit Go.Dt

/-- A wire's cells. -/
def wC (e : Int × Int) : List Value := [.int .i64 e.1, .int .i64 e.2]
def wN (e : Wr) : List Value := [.int .i64 e.1, .int .i64 e.2]
theorem wC_len (e : Int × Int) : (wC e).length = 2 := rfl
theorem wN_len (e : Wr) : (wN e).length = 2 := rfl
abbrev wV (a b : Int) : Value := .agg #[.int .i64 a, .int .i64 b]
abbrev netV (n : Int) (wv : Value) : Value := .agg #[.int .i64 n, wv]

theorem Rd.map {α β : Type} {m : Nat} {enc : α → List Value} {enc' : β → List Value} {f : α → β} {w : World} {v : Value} {l : List α} (h : Rd m enc w v l) (hf : ∀ x ∈ l, enc' (f x) = enc x) : Rd m enc' w v (l.map f) := by
  obtain ⟨a, cap, rfl, hl, hh⟩ := h
  refine ⟨a, cap, by rw [List.length_map], by rw [List.length_map]; exact hl, fun h0 => ?_⟩
  rw [List.length_map] at h0
  obtain ⟨b, off, rfl, hc⟩ := hh h0
  refine ⟨b, off, rfl, fun i x hi j u hu => ?_⟩
  rw [List.getElem?_map] at hi
  obtain ⟨y, hy, rfl⟩ := Option.map_eq_some_iff.1 hi
  rw [hf y (List.mem_of_getElem? hy)] at hu
  exact hc i y hy j u hu

set_option maxRecDepth 100000 in
theorem index_calls {v : Value} {l : List Int} {x : Int} (w : World) (hr : RdInts w v l) (hl : l.length ≤ 1000) : Calls Tryd.prog 99 #[v, .int .i64 x] w fun e w' => w = w' ∧ ∃ p : Int, e = .returned (.int .i64 p) ∧ (0 ≤ p ↔ x ∈ l) := by
  obtain ⟨a, cap, ev, _, _⟩ := hr.len
  have lnv : ∀ K : Value → Prop, ln1 v K = K (.int .i64 l.length) := fun K => by rw [ev]; rfl
  refine lift99 ?_
  unfold S99 S99L0
  rw [lnv]
  refine ⟨fun t8 wr => ∃ j : Nat, j ≤ l.length ∧ t8 = .int .i64 j ∧ (x ∉ l.take j) ∧ w = wr, fun t8 _ => l.length - (intOf t8).toNat, ⟨0, by omega, rfl, by simp, rfl⟩, ?_⟩
  rintro _ _ _ ⟨j, hj, rfl, hz, rfl⟩
  by_cases hlt : j < l.length
  case neg =>
    have hlt' : ¬ (j : Int) < (l.length : Int) := by omega
    simp only [r_lss, hlt', decide_false, r_condF]
    rw [List.take_of_length_le (by omega)] at hz
    exact ⟨by first | rfl | trivial, _, rfl, ⟨fun h => by omega, fun h => absurd h hz⟩⟩
  have hlt' : (j : Int) < (l.length : Int) := by omega
  simp only [r_lss, decide_eq_true hlt', r_condT]
  rw [ints_ldK hr hlt, r_eql]
  by_cases h0 : x = l.getD j 0
  · simp only [decide_eq_true h0, r_condT]
    exact ⟨by first | rfl | trivial, _, rfl, ⟨fun _ => by rw [h0]; exact getD_mem hlt, fun _ => by omega⟩⟩
  · simp only [h0, decide_false, r_condF]
    rw [r_add _ _ (by omega) (by omega)]
    refine ⟨⟨j + 1, by omega, by go_num, fun hm => ?_, by first | rfl | trivial⟩, by simp only [intOf]; omega⟩
    rw [take_succ' _ _ hlt] at hm
    rcases List.mem_append.1 hm with h | h
    · exact hz h
    · simp at h
      rw [getD_lt _ _ _ hlt] at h0
      exact h0 h
theorem contains_calls {v : Value} {l : List Int} {x : Int} (w : World) (hr : RdInts w v l) (hl : l.length ≤ 1000) : Calls Tryd.prog 86 #[v, .int .i64 x] w fun e w' => w = w' ∧ e = .returned (.bool (decide (x ∈ l))) := by
  refine lift86 ?_
  unfold S86
  refine r_use fok99 (index_calls w hr hl) rfl ?_
  rintro _ _ ⟨rfl, p, rfl, hp⟩
  refine ⟨_, rfl, ?_⟩
  rw [r_geq]
  exact ⟨rfl, ret_bool (decide_eq_decide.2 hp)⟩

/-- The numbers below n that are not to be left out. -/
def keepN (n : Nat) (wo : List Int) : List Nat := (List.range n).filter fun i => !decide ((i : Int) ∈ wo)
/-- A matrix without some rows and columns. -/
def redM (n : Nat) (wo : List Int) (f : Nat → Nat → Int) : List (List Int) := (keepN n wo).map fun i => (keepN n wo).map fun j => f i j
theorem keepN_succ (n : Nat) (wo : List Int) : keepN (n + 1) wo = keepN n wo ++ if (n : Int) ∈ wo then [] else [n] := by
  unfold keepN
  rw [List.range_succ, List.filter_append]
  congr 1
  by_cases h : (n : Int) ∈ wo
  · rw [if_pos h]; simp [h]
  · rw [if_neg h]; simp [h]
theorem keepN_le (n : Nat) (wo : List Int) : (keepN n wo).length ≤ n := by
  have := List.length_filter_le (fun i : Nat => !decide ((i : Int) ∈ wo)) (List.range n)
  rwa [List.length_range] at this

/-- Rows of zeros, as far as they are made. -/
structure Part (base : Nat) (w : World) (v : Value) (vs : List Value) (n k : Nat) : Prop where
  out : RecAt 34 1 vE base w v vs
  len : vs.length = n
  rows : ∀ (i : Nat) u, i < k → vs[i]? = some u → IntsAt base w u (List.replicate n 0)
  apart : ∀ (i j : Nat) u u' q, i < k → j < k → vs[i]? = some u → vs[j]? = some u' → u.ownBlock = some q → u'.ownBlock = some q → i = j

theorem zeros_hat (n a b : Nat) : hat (List.replicate n (List.replicate n 0)) a b = 0 := by
  unfold hat
  rw [List.getD_eq_getElem?_getD (l := List.replicate n (List.replicate n 0)), List.getElem?_replicate]
  split
  · rw [List.getD_eq_getElem?_getD, Option.getD_some, List.getElem?_replicate]; split <;> rfl
  · simp
theorem zeros_sized (n : Nat) : Sized n n (List.replicate n (List.replicate n 0)) := ⟨by simp, fun i hi => by
  rw [List.getD_eq_getElem?_getD, List.getElem?_replicate, if_pos hi]; simp⟩

theorem lap_abs {l : List Wr} {n : Nat} (hl : Wf n l) (i j : Nat) : (lap l i j).natAbs ≤ l.length := by
  induction l with
  | nil => exact Nat.le_refl _
  | cons e l ih =>
    have h1 := ih hl.tail
    have he := hl e (List.mem_cons_self ..)
    have h2 : (ends e i * ends e j).natAbs ≤ 1 := by
      have b : ∀ i, (ends e i).natAbs ≤ 1 := fun i => by
        unfold ends unit
        split <;> split <;> (try omega) <;> simp
      rw [Int.natAbs_mul]
      exact Nat.mul_le_mul (b i) (b j)
    simp only [lap, List.length_cons]
    omega
theorem lap_snoc (l : List Wr) (e : Wr) (i j : Nat) : lap (l ++ [e]) i j = lap l i j + ends e i * ends e j := by
  rw [lap_perm (List.perm_append_singleton e l)]; rfl

/-- An entry turns by d. -/
theorem IMat.bump {base : Nat} {w : World} {v : Value} {R : List (List Int)} {n : Nat} (h : IMat base w v R) (hs : Sized n n R) {i j : Nat} (hi : i < n) (hj : j < n) {f : Nat → Nat → Int} (hf : ∀ a b, a < n → b < n → hat R a b = f a b) :
    ∃ u d, (∀ K : Value → Prop, (iaS 1 v (.int .i64 i) fun p => ld1 w p K) = K u) ∧ (∀ K : Value → Prop, iaS 1 u (.int .i64 j) K = K (.pointer (some ⟨d, j, none⟩))) ∧ w.cell? ⟨d, j, none⟩ = some (.int .i64 (f i j)) ∧ w.frozen? ⟨d, j, none⟩ = false ∧ base ≤ d ∧ (∃ cur, w.heap[d]? = some (.cells cur 3 (0, 0))) ∧
      ∀ x, ∃ R', IMat base (w.setCell ⟨d, j, none⟩ (.int .i64 x)) v R' ∧ Sized n n R' ∧ ∀ a b, a < n → b < n → hat R' a b = if a = i ∧ b = j then x else f a b := by
  obtain ⟨vs, h⟩ := h
  have hlen := hs.1
  have hrow := hs.2 i hi
  obtain ⟨u0, hu0, I0, _⟩ := h.ldK (i := i) (by omega)
  obtain ⟨g, cap, q, c, ev, hcell, _, hbq, hq, hfr, ⟨u', hu', hd'⟩, hput⟩ := h.put (i := i) (j := j) (by omega) (by omega)
  have hii : (i : Int).toNat = i := by omega
  have hjj : (j : Int).toNat = j := by omega
  refine ⟨.slice (some ⟨q, 0, none⟩) (R.getD i []).length c, q, fun K => ?_, fun K => ?_, by rw [hq, hf i j hi hj], hfr, hbq, own_type I0 (by rw [hu0] at hu'; cases hu'; exact hd'), fun x => ⟨_, ⟨vs, hput x⟩, put2_sized hs hi x, fun a b ha hb => ?_⟩⟩
  · rw [ev, r_iaS _ _ _ _ _ _ _ (by omega) (by omega), hii, Nat.mul_one, Nat.zero_add, r_ld hcell]
  · rw [r_iaS _ _ _ _ _ _ _ (by omega) (by omega), hjj, Nat.mul_one, Nat.zero_add]
  · rw [put2_hat _ _ _ _ _ _ (by omega) (by omega)]
    by_cases e : a = i ∧ b = j
    · rw [if_pos e, if_pos e]
    · rw [if_neg e, if_neg e, hf a b ha hb]

end Go.Proofs.YtkdcldbedbagjaaDoor

/- Contract: the Laplacian of the program. -/
namespace Go.Proofs.YtkdcldbedbagjaaDoor
open Go.Lf Go.RowKit Go.Dt

set_option maxRecDepth 100000 in
set_option maxHeartbeats 1000000 in
/-- The inner loop: one row without the columns left out. -/
theorem r71_3 {n i : Nat} {wo : List Int} {f : Nat → Nat → Int} {base base' : Nat} {t1 t9 u : Value} {out : List (List Int)} {row : List Int} {w0 : World} {k2 : Value → World → Prop} (hn : n ≤ 1000) (hwo : RdInts w0 t1 wo) (hwl : wo.length ≤ 1000)
    (hu : IntsAt base w0 u row) (hul : row.length = n) (hrow : ∀ j, j < n → row.getD j 0 = f i j) (h9 : IMat base' w0 t9 out) (hb' : base' ≤ w0.heap.size) (hol : out.length ≤ 1000)
    (hk : ∀ v w', IMat base' w' v (out ++ [(keepN n wo).map fun j => f i j]) → Chg (fun k => base' ≤ k) w0 w' → k2 v w') :
    S71L3 t1 t9 u (.int .i64 n) k2 w0 := by
  unfold S71L3
  refine ⟨fun t12 t94 wr => ∃ j : Nat, j ≤ n ∧ t94 = .int .i64 j ∧ IntsAt w0.heap.size wr t12 ((keepN j wo).map fun j => f i j) ∧ Kp w0 wr, fun _ t94 _ => n - (intOf t94).toNat, ⟨0, by omega, rfl, RecAt.nil, Kp.refl _⟩, ?_⟩
  rintro _ t12 _ wr ⟨j, hj, rfl, hP, kr⟩
  obtain ⟨pa, pc, ep, _⟩ := hP.len
  have hkl := keepN_le j wo
  by_cases hlt : j < n
  case neg =>
    have hlt' : ¬ (j : Int) < (n : Int) := by omega
    obtain rfl : j = n := by omega
    simp only [r_lss, hlt', decide_false, r_condF]
    rw [ep] at hP ⊢
    have hsz := kr.size
    refine r_pushMat h9 kr hP (Nat.le_refl _) (by omega) hb' fun v' w' o1 c1 _ => hk v' w' o1 ?_
    refine (Chg.of_kp kr).trans (c1.mono fun k _ hk => ?_)
    obtain ⟨vs, h1, _⟩ := h9
    exact (h1.lt hk).1
  have hlt' : (j : Int) < (n : Int) := by omega
  simp only [r_lss, decide_eq_true hlt', r_condT]
  rw [own_ldK (hu.kp kr) (by omega), hrow j hlt]
  refine r_use fok86 (contains_calls wr (hwo.below kr) hwl) rfl ?_
  rintro _ _ ⟨rfl, rfl⟩
  refine ⟨_, rfl, ?_⟩
  rw [r_not]
  have hks := keepN_succ j wo
  refine r_join1 (fun v w3 => IntsAt w0.heap.size w3 v ((keepN (j + 1) wo).map fun j => f i j) ∧ Kp w0 w3) ?_ fun k4 hk4 => ?_
  · rintro v w3 ⟨g1, g2⟩
    rw [r_add _ _ (by omega) (by omega)]
    exact ⟨⟨j + 1, by omega, by go_num, g1, g2⟩, by simp only [intOf]; omega⟩
  · by_cases hm : (j : Int) ∈ wo
    · rw [if_pos hm, List.append_nil] at hks
      rw [hks] at hk4
      simp only [decide_eq_true hm, Bool.not_true, r_condF]
      exact hk4 _ _ ⟨hP, kr⟩
    · rw [if_neg hm] at hks
      simp only [hm, decide_false, Bool.not_false, r_condT]
      have hsz := kr.size
      refine r_pushRec (x := f i j) slt34 iC_len rfl (bs34 _ _ _) (by intro u hu; simp [iC] at hu; rw [hu]; rfl) (by omega) hP (by rw [List.length_map]; omega) (by omega) fun v' w' o1 c1 _ => ?_
      refine hk4 _ _ ⟨by rw [hks, List.map_append]; exact o1, Kp.of_chg kr c1 fun k hk => (hP.lt hk).1⟩

set_option maxRecDepth 100000 in
set_option maxHeartbeats 1000000 in
theorem r71_2 {n : Nat} {wo : List Int} {f : Nat → Nat → Int} {base : Nat} {t1 t17 : Value} {F : List (List Int)} {w0 : World} {R : Ending → World → Prop} (hn : n ≤ 1000) (hwo : RdInts w0 t1 wo) (hwl : wo.length ≤ 1000)
    (hF : IMat base w0 t17 F) (hFs : Sized n n F) (hFf : ∀ a b, a < n → b < n → hat F a b = f a b)
    (hR : ∀ v w', IMat w0.heap.size w' v (redM n wo f) → Kp w0 w' → R (.returned v) w') : S71L2 t1 t17 (.int .i64 n) R w0 := by
  obtain ⟨vs, hF⟩ := hF
  unfold S71L2
  refine ⟨fun t9 t84 wr => ∃ i : Nat, i ≤ n ∧ t84 = .int .i64 i ∧ IMat w0.heap.size wr t9 ((keepN i wo).map fun i => (keepN n wo).map fun j => f i j) ∧ Kp w0 wr, fun _ t84 _ => n - (intOf t84).toNat, ⟨0, by omega, rfl, IMat.nil, Kp.refl _⟩, ?_⟩
  rintro _ t9 _ wr ⟨i, hi, rfl, hP, kr⟩
  by_cases hlt : i < n
  case neg =>
    have hlt' : ¬ (i : Int) < (n : Int) := by omega
    obtain rfl : i = n := by omega
    simp only [r_lss, hlt', decide_false, r_condF]
    exact hR _ _ hP kr
  have hlt' : (i : Int) < (n : Int) := by omega
  have hFl := hFs.1
  have hFr := hFs.2 i hlt
  have hkl := keepN_le i wo
  simp only [r_lss, decide_eq_true hlt', r_condT]
  have hks := keepN_succ i wo
  refine r_join1 (fun v w3 => IMat w0.heap.size w3 v ((keepN (i + 1) wo).map fun i => (keepN n wo).map fun j => f i j) ∧ Kp w0 w3) ?_ fun k4 hk4 => ?_
  · rintro v w3 ⟨g1, g2⟩
    rw [r_add _ _ (by omega) (by omega)]
    exact ⟨⟨i + 1, by omega, by go_num, g1, g2⟩, by simp only [intOf]; omega⟩
  · obtain ⟨u, _, Iu, ldu⟩ := (hF.kp kr).ldK (i := i) (by omega)
    rw [ldu]
    refine r_use fok86 (contains_calls wr (hwo.below kr) hwl) rfl ?_
    rintro _ _ ⟨rfl, rfl⟩
    refine ⟨_, rfl, ?_⟩
    by_cases hm : (i : Int) ∈ wo
    · rw [if_pos hm, List.append_nil] at hks
      rw [hks] at hk4
      simp only [decide_eq_true hm, r_condT]
      exact hk4 _ _ ⟨hP, kr⟩
    · rw [if_neg hm] at hks
      simp only [hm, decide_false, r_condF]
      obtain ⟨ua, uc, eu, _⟩ := Iu.len
      have lnu : ∀ K : Value → Prop, ln1 u K = K (.int .i64 n) := fun K => by rw [eu, hFr]; rfl
      rw [lnu]
      have hsz := kr.size
      refine r71_3 (f := f) hn (hwo.below kr) hwl Iu hFr (fun j hj => hFf i j hlt hj) hP (by omega) (by rw [List.length_map]; omega) fun v w' o1 c1 => ?_
      refine hk4 _ _ ⟨by rw [hks, List.map_append]; exact o1, Kp.of_chg kr c1 fun k hk => hk⟩

end Go.Proofs.YtkdcldbedbagjaaDoor

/- Contract: the Laplacian of the program, whole. -/
namespace Go.Proofs.YtkdcldbedbagjaaDoor
open Go.Lf Go.RowKit Go.Dt

set_option maxRecDepth 100000 in
theorem st40 {w : World} {b : Nat} {x y : Value} {a c : Int} {K : World → Prop} (h : w.heap[b]? = some (.cells #[x, y] 40 (0, 0))) (hk : ∀ w', Chg (fun k => k = b) w w' → w'.heap.size = w.heap.size → w'.heap[b]? = some (.cells #[.int .i64 a, .int .i64 c] 40 (0, 0)) → K w') : stW Tryd.prog 40 (ptrV b) (wV a c) w K :=
  r_stAll (n := 2) (by kernel_rfl) rfl (by intro u hu; simp [Value.cells] at hu; rcases hu with rfl | rfl <;> rfl) h rfl fun w' h1 h2 h3 => hk w' h1 h2 h3

theorem wire_at {w : World} {v : Value} {ws : List Wr} (h : Rd 2 wN w v ws) {i : Nat} (hi : i < ws.length) : ∀ K : Value → Prop, (iaS 2 v (.int .i64 i) fun p => ldN 2 w p K) = K (wV (ws.getD i (0, 0)).1 (ws.getD i (0, 0)).2) := fun K => by
  obtain ⟨b, off, cap, e, _, hc⟩ := h.at (List.getElem?_eq_getElem hi)
  have hii : (i : Int).toNat = i := by omega
  rw [e, r_iaS _ _ _ _ _ _ _ (by omega) (by omega), hii, r_ldCells (n := 2) (l := wN ws[i]) rfl hc, getD_lt _ _ _ hi]
  rfl

theorem small16 {x : Int} (h : x.natAbs ≤ 16) : -16 ≤ x ∧ x ≤ 16 := by omega

set_option maxRecDepth 100000 in
set_option maxHeartbeats 2000000 in
theorem r71_1 {n : Nat} {wo : List Int} {ws : List Wr} {t1 t17 wv : Value} {F : List (List Int)} {w0 w1 : World} {R : Ending → World → Prop} (hn : n ≤ 1000) (hwo : RdInts w0 t1 wo) (hwl : wo.length ≤ 1000) (hwf : Wf n ws) (hws : ws.length ≤ 16)
    (hwv : Rd 2 wN w0 wv ws) (hF : IMat w0.heap.size w1 t17 F) (hFs : Sized n n F) (hF0 : ∀ a b, a < n → b < n → hat F a b = 0) (k01 : Kp w0 w1)
    (hR : ∀ v w', IMat w0.heap.size w' v (redM n wo (lap ws)) → Kp w0 w' → R (.returned v) w') : S71L1 t1 t17 wv (.int .i64 ws.length) R w1 := by
  obtain ⟨fa, fc, ef, _⟩ := hF.len
  have lnF : ∀ K : Value → Prop, ln1 t17 K = K (.int .i64 n) := fun K => by rw [ef, hFs.1]; rfl
  unfold S71L1
  refine ⟨fun t33 wr => ∃ (k : Nat) (F' : List (List Int)), k ≤ ws.length ∧ t33 = .int .i64 k ∧ IMat w0.heap.size wr t17 F' ∧ Sized n n F' ∧ (∀ a b, a < n → b < n → hat F' a b = lap (ws.take k) a b) ∧ Kp w0 wr, fun t33 _ => ws.length - (intOf t33).toNat,
    ⟨0, F, by omega, rfl, hF, hFs, fun a b ha hb => by rw [hF0 a b ha hb]; rfl, k01⟩, ?_⟩
  rintro _ _ wr ⟨k, F', hk, rfl, hM, hS, hL, kr⟩
  have hsz := kr.size
  by_cases hlt : k < ws.length
  case neg =>
    have hlt' : ¬ (k : Int) < (ws.length : Int) := by omega
    simp only [r_lss, hlt', decide_false, r_condF]
    rw [List.take_of_length_le (by omega)] at hL
    rw [lnF]
    refine r71_2 (f := lap ws) hn (hwo.below kr) hwl hM hS hL fun v w' o1 k1 => hR v w' (o1.down hsz) (Kp.trans kr k1)
  have hlt' : (k : Int) < (ws.length : Int) := by omega
  simp only [r_lss, decide_eq_true hlt', r_condT]
  have hmem : ws.getD k (0, 0) ∈ ws := getD_mem hlt
  obtain ⟨hA, hB, hne⟩ := hwf _ hmem
  have hbound : ∀ a b, (lap (ws.take k) a b).natAbs ≤ 16 := fun a b => by
    have := lap_abs (n := n) (l := ws.take k) (fun x hx => hwf x (List.mem_of_mem_take hx)) a b
    rw [List.length_take] at this
    omega
  have hsn : ∀ a b, lap (ws.take (k + 1)) a b = lap (ws.take k) a b + ends (ws.getD k (0, 0)) a * ends (ws.getD k (0, 0)) b := fun a b => by
    rw [take_succ' _ _ hlt, lap_snoc, getD_lt _ _ _ hlt]
  rw [wire_at (hwv.kp kr) hlt]
  generalize ws.getD k (0, 0) = e at *
  obtain ⟨A, B⟩ := e
  dsimp only at hA hB hne hsn
  refine r_box fun b8 w2 e8 s8 h8 k2 => ?_
  have h8' : w2.heap[b8]? = some (.cells #[.int .i64 0, .int .i64 0] 40 (0, 0)) := h8
  refine st40 h8' fun w3 c3 s3 h83 => ?_
  have k3 : Kp wr w3 := Kp.of_chg k2 c3 fun q e => by omega
  have hM3 := hM.kp k3
  have hw3 := k3.size
  -- what the box and the rows are in
  have ne8 : ∀ {w : World} {d : Nat} {x y : Value}, w.heap[b8]? = some (.cells #[x, y] 40 (0, 0)) → (∃ cur, w.heap[d]? = some (.cells cur 3 (0, 0))) → ¬ b8 = d := by
    rintro w d x y h ⟨cur, hc⟩ rfl
    rw [h] at hc
    injection hc with hc
    injection hc with _ hc _
    exact absurd hc (by decide)
  have step : ∀ {w : World} {d j : Nat} {x : Int}, w0.heap.size ≤ d → Kp w0 w → Kp w0 (w.setCell ⟨d, j, none⟩ (.int .i64 x)) := fun {w d j x} hd hk =>
    Kp.of_chg hk (Chg.setCell (S := fun k => k = d) w (p := ⟨d, j, none⟩) _ rfl) fun q e => by omega
  have keep8 : ∀ {w : World} {d j : Nat} {x : Int}, w.heap[b8]? = some (.cells #[.int .i64 A, .int .i64 B] 40 (0, 0)) → (∃ cur, w.heap[d]? = some (.cells cur 3 (0, 0))) → (w.setCell ⟨d, j, none⟩ (.int .i64 x)).heap[b8]? = some (.cells #[.int .i64 A, .int .i64 B] 40 (0, 0)) := fun {w d j x} h hc =>
    (Chg.setCell (S := fun k => k = d) w (p := ⟨d, j, none⟩) _ rfl).at h (ne8 h hc)
  have cA : ∀ {w : World}, w.heap[b8]? = some (.cells #[.int .i64 A, .int .i64 B] 40 (0, 0)) → w.cell? ⟨b8, 0 + 0, none⟩ = some (.int .i64 A) := fun h => by rw [cell_row h]; rfl
  have cB : ∀ {w : World}, w.heap[b8]? = some (.cells #[.int .i64 A, .int .i64 B] 40 (0, 0)) → w.cell? ⟨b8, 0 + 1, none⟩ = some (.int .i64 B) := fun h => by rw [cell_row h]; rfl
  have bA := small16 (hbound A A)
  have bB := small16 (hbound B B)
  have bAB := small16 (hbound A B)
  have bBA := small16 (hbound B A)
  have k03 := Kp.trans kr k3
  -- A A
  refine r_drew fun w4 k4 _ => ?_
  have h84 := block_below h83 k4
  have k04 := Kp.trans k03 k4
  obtain ⟨u1, d1, lu1, iu1, c1, f1, hb1, hc1, put1⟩ := (hM3.kp k4).bump hS hA hA hL
  rw [r_fa, r_ld (cA h84), lu1, r_fa, r_ld (cA h84), iu1, r_ld c1, r_add _ _ (by omega) (by omega), iu1, st3 c1 f1]
  obtain ⟨F1, hM5, hS5, hL5⟩ := put1 (lap (ws.take k) A A + 1)
  have k05 := step (j := A) (x := lap (ws.take k) A A + 1) hb1 k04
  have h85 := keep8 (j := A) (x := lap (ws.take k) A A + 1) h84 hc1
  generalize w4.setCell ⟨d1, A, none⟩ (.int .i64 (lap (ws.take k) A A + 1)) = w5 at *
  -- B B
  refine r_drew fun w6 k6 _ => ?_
  have h86 := block_below h85 k6
  have k06 := Kp.trans k05 k6
  obtain ⟨u2, d2, lu2, iu2, c2, f2, hb2, hc2, put2'⟩ := (hM5.kp k6).bump hS5 hB hB hL5
  rw [if_neg (by omega)] at c2
  rw [r_fa, r_ld (cB h86), lu2, r_fa, r_ld (cB h86), iu2, r_ld c2, r_add _ _ (by omega) (by omega), iu2, st3 c2 f2]
  obtain ⟨F2, hM7, hS7, hL7⟩ := put2' (lap (ws.take k) B B + 1)
  have k07 := step (j := B) (x := lap (ws.take k) B B + 1) hb2 k06
  have h87 := keep8 (j := B) (x := lap (ws.take k) B B + 1) h86 hc2
  generalize w6.setCell ⟨d2, B, none⟩ (.int .i64 (lap (ws.take k) B B + 1)) = w7 at *
  -- A B
  refine r_drew fun w8 k8 _ => ?_
  have h88 := block_below h87 k8
  have k08 := Kp.trans k07 k8
  obtain ⟨u3, d3, lu3, iu3, c3', f3, hb3, hc3, put3⟩ := (hM7.kp k8).bump hS7 hA hB hL7
  rw [if_neg (by omega), if_neg (by omega)] at c3'
  rw [r_fa, r_ld (cA h88), lu3, r_fa, r_ld (cB h88), iu3, r_ld c3', r_sub _ _ (by omega) (by omega), iu3, st3 c3' f3]
  obtain ⟨F3, hM9, hS9, hL9⟩ := put3 (lap (ws.take k) A B - 1)
  have k09 := step (j := B) (x := lap (ws.take k) A B - 1) hb3 k08
  have h89 := keep8 (j := B) (x := lap (ws.take k) A B - 1) h88 hc3
  generalize w8.setCell ⟨d3, B, none⟩ (.int .i64 (lap (ws.take k) A B - 1)) = w9 at *
  -- B A
  refine r_drew fun wa ka _ => ?_
  have h8a := block_below h89 ka
  have k0a := Kp.trans k09 ka
  obtain ⟨u4, d4, lu4, iu4, c4, f4, hb4, hc4, put4⟩ := (hM9.kp ka).bump hS9 hB hA hL9
  rw [if_neg (by omega), if_neg (by omega), if_neg (by omega)] at c4
  rw [r_fa, r_ld (cB h8a), lu4, r_fa, r_ld (cA h8a), iu4, r_ld c4, r_sub _ _ (by omega) (by omega), iu4, st3 c4 f4]
  obtain ⟨F4, hMb, hSb, hLb⟩ := put4 (lap (ws.take k) B A - 1)
  have k0b := step (j := A) (x := lap (ws.take k) B A - 1) hb4 k0a
  rw [r_add _ _ (by omega) (by omega)]
  refine ⟨⟨k + 1, F4, by omega, by go_num, hMb, hSb, fun a b ha hb => ?_, k0b⟩, by simp only [intOf]; omega⟩
  rw [hLb a b ha hb, hsn]
  simp only [ends, unit]
  by_cases a1 : a = A
  · by_cases b1 : b = A
    · subst a1; subst b1
      rw [if_neg (by omega), if_neg (by omega), if_neg (by omega), if_pos ⟨rfl, rfl⟩, if_pos rfl, if_neg hne]; omega
    · by_cases b2 : b = B
      · subst a1; subst b2
        rw [if_neg (by omega), if_pos ⟨rfl, rfl⟩, if_pos rfl, if_neg hne, if_neg (Ne.symm hne), if_pos rfl]; omega
      · rw [if_neg (by omega), if_neg (by omega), if_neg (by omega), if_neg (by omega), if_neg b1, if_neg b2]; omega
  · by_cases a2 : a = B
    · by_cases b1 : b = A
      · subst a2; subst b1
        rw [if_pos ⟨rfl, rfl⟩, if_neg (Ne.symm hne), if_pos rfl, if_pos rfl, if_neg hne]; omega
      · by_cases b2 : b = B
        · subst a2; subst b2
          rw [if_neg (by omega), if_neg (by omega), if_pos ⟨rfl, rfl⟩, if_neg (Ne.symm hne), if_pos rfl]; omega
        · rw [if_neg (by omega), if_neg (by omega), if_neg (by omega), if_neg (by omega), if_neg b1, if_neg b2]; omega
    · rw [if_neg (by omega), if_neg (by omega), if_neg (by omega), if_neg (by omega), if_neg a1, if_neg a2]; omega

set_option maxRecDepth 100000 in
set_option maxHeartbeats 2000000 in
theorem lap_calls {n : Nat} {wo : List Int} {ws : List Wr} {t1 wv : Value} (w : World) (hn : n ≤ 1000) (hwo : RdInts w t1 wo) (hwl : wo.length ≤ 1000) (hwf : Wf n ws) (hws : ws.length ≤ 16) (hwv : Rd 2 wN w wv ws) :
    Calls Tryd.prog 71 #[netV n wv, t1] w fun e w' => ∃ v, e = .returned v ∧ IMat w.heap.size w' v (redM n wo (lap ws)) ∧ Kp w w' := by
  obtain ⟨wa, wc, ewv, _⟩ := hwv.len
  have lnw : ∀ K : Value → Prop, ln1 wv K = K (.int .i64 ws.length) := fun K => by rw [ewv]; rfl
  refine lift71 ?_
  unfold S71
  refine r_box fun b2 w1 e2 s2 h2 k1 => ?_
  have h2' : w1.heap[b2]? = some (.cells #[.int .i64 n, wv] 80 (0, 0)) := h2
  have c0 : ∀ {w : World}, w.heap[b2]? = some (.cells #[.int .i64 n, wv] 80 (0, 0)) → w.cell? ⟨b2, 0 + 0, none⟩ = some (.int .i64 n) := fun h => by rw [cell_row h]; rfl
  have c1 : ∀ {w : World}, w.heap[b2]? = some (.cells #[.int .i64 n, wv] 80 (0, 0)) → w.cell? ⟨b2, 0 + 1, none⟩ = some wv := fun h => by rw [cell_row h]; rfl
  rw [r_fa, r_ld (c0 h2')]
  refine mk52 (by omega) fun t17 w2 o2 k2 => ?_
  obtain ⟨oa, oc, e17, _⟩ := o2.len
  rw [List.length_replicate] at e17
  have ln17 : ∀ K : Value → Prop, ln1 t17 K = K (.int .i64 n) := fun K => by rw [e17]; rfl
  rw [ln17]
  unfold S71L0
  refine ⟨fun t20 wr => ∃ (k : Nat) (vs : List Value), k ≤ n ∧ t20 = .int .i64 k ∧ Part w1.heap.size wr t17 vs n k ∧ Kp w1 wr, fun t20 _ => n - (intOf t20).toNat,
    ⟨0, _, by omega, rfl, ⟨o2, by simp, fun i u h => by omega, fun i j u u' q h => by omega⟩, k2⟩, ?_⟩
  rintro _ _ wr ⟨k, vs, hk, rfl, hP, kr⟩
  have h2r := block_below h2' kr
  have hszr := kr.size
  by_cases hlt : k < n
  case neg =>
    have hlt' : ¬ (k : Int) < (n : Int) := by omega
    obtain rfl : k = n := by omega
    simp only [r_lss, hlt', decide_false, r_condF]
    rw [r_fa, r_ld (c1 h2r), lnw]
    have hM : IMat w1.heap.size wr t17 (List.replicate k (List.replicate k 0)) := ⟨vs, hP.out, by rw [List.length_replicate]; exact hP.len, fun i u r hu hr => by
      have hi := (List.getElem?_eq_some_iff.1 hu).1
      rw [hP.len] at hi
      rw [List.getElem?_replicate, if_pos hi] at hr
      cases hr
      exact hP.rows i u hi hu, fun i j u u' q hu hu' h1 h2 => by
      have hi := (List.getElem?_eq_some_iff.1 hu).1
      have hj := (List.getElem?_eq_some_iff.1 hu').1
      rw [hP.len] at hi hj
      exact hP.apart i j u u' q hi hj hu hu' h1 h2⟩
    refine r71_1 (w0 := w1) hn (hwo.below k1) hwl hwf hws (hwv.kp k1) hM (zeros_sized k) (fun a b _ _ => zeros_hat k a b) kr fun v w' o k' => ⟨v, rfl, o.down (by omega), Kp.trans k1 k'⟩
  have hlt' : (k : Int) < (n : Int) := by omega
  simp only [r_lss, decide_eq_true hlt', r_condT]
  rw [r_fa, r_ld (c0 h2r)]
  refine mk34' (by omega) fun t27 w3 o3 k3 hb3 => ?_
  obtain ⟨pa, pc, e27, _⟩ := o3.len
  have hPo := hP.out.kp k3
  have hlk : k < vs.length := by rw [hP.len]; exact hlt
  obtain ⟨g, cap, ev, hbg, ⟨x, hx⟩, hfr, hset⟩ := RecAt.set (j := 0) (p' := t27) (u := t27) vE_len hPo (List.getElem?_eq_getElem hlk) (by omega) rfl
  simp only [Nat.mul_one, Nat.add_zero] at hx hfr hset
  have hkk : (k : Int).toNat = k := by omega
  rw [hP.len] at ev
  have hgo : t17.ownBlock = some g := by rw [ev]; rfl
  have ia : ∀ K : Value → Prop, iaS 1 t17 (.int .i64 k) K = K (.pointer (some ⟨g, k, none⟩)) := fun K => by rw [ev, r_iaS _ _ _ _ _ _ _ (by omega) (by omega), hkk, Nat.mul_one, Nat.zero_add]
  have hst : ∀ K : World → Prop, stW Tryd.prog 34 (.pointer (some ⟨g, k, none⟩)) t27 w3 K = K (w3.setCell ⟨g, k, none⟩ t27) := fun K => by rw [e27]; exact st34 hx hfr
  rw [ia, hst, r_add _ _ (by omega) (by omega)]
  have hch : Chg (fun q => q = g) w3 (w3.setCell ⟨g, k, none⟩ t27) := Chg.setCell _ _ rfl
  refine ⟨⟨k + 1, _, by omega, by go_num, ⟨hset, by rw [List.length_set]; exact hP.len, fun i u hi hu => ?_, fun i j u u' q hi hj hu hu' h1 h2 => ?_⟩, Kp.of_chg (Kp.trans kr k3) hch fun q e => by omega⟩, by simp only [intOf]; omega⟩
  · by_cases e : i = k
    · subst e
      rw [List.getElem?_set_self hlk] at hu
      cases hu
      exact (o3.chg hch fun q hq e => rec_ne o3 hPo (by decide) q hq (by rw [e]; exact hgo)).down (by omega)
    · rw [List.getElem?_set_ne (Ne.symm e)] at hu
      have I := (hP.rows i u (by omega) hu).kp k3
      exact I.chg hch fun q hq e => rec_ne I hPo (by decide) q hq (by rw [e]; exact hgo)
  · have old : ∀ (i : Nat) u, i < k → vs[i]? = some u → u.ownBlock = some q → q < wr.heap.size := fun i u hi hu h => ((hP.rows i u hi hu).lt h).2
    have new : t27.ownBlock = some q → wr.heap.size ≤ q := fun h => by rw [hb3] at h; injection h with h; omega
    by_cases e : i = k
    · subst e
      rw [List.getElem?_set_self hlk] at hu
      cases hu
      by_cases e' : j = i
      · exact e'.symm
      · rw [List.getElem?_set_ne (Ne.symm e')] at hu'
        have := new h1; have := old j u' (by omega) hu' h2; omega
    · rw [List.getElem?_set_ne (Ne.symm e)] at hu
      by_cases e' : j = k
      · subst e'
        rw [List.getElem?_set_self hlk] at hu'
        cases hu'
        have := new h2; have := old i u (by omega) hu h1; omega
      · rw [List.getElem?_set_ne (Ne.symm e')] at hu'
        exact hP.apart i j u u' q (by omega) (by omega) hu hu' h1 h2

end Go.Proofs.YtkdcldbedbagjaaDoor
