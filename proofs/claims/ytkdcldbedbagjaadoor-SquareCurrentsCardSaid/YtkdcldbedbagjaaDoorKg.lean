/- Contracts: trees, merged, potential of the program. -/
import Derived.Test.YtkdcldbedbagjaaDoorKf
set_option linter.all false
namespace Go.Proofs.YtkdcldbedbagjaaDoor
open Go.Lf Go.RowKit Go.Dt

/-- The package's variable lies there. -/
def Wh (w : World) : Prop := ∀ j u, [fnV 122, fnV 123, fnV 124][j]? = some u → w.cell? ⟨0, 0 + j, none⟩ = some u
theorem Wh.kp {w w' : World} (h : Wh w) (k : Kp w w') : Wh w' := fun j u hu => cell_later k (h j u hu)
theorem Wh.ld {w : World} (h : Wh w) (K : Value → Prop) : ldN 3 w (.pointer (some ⟨0, 0, none⟩)) K = K kV := r_ldCells (n := 3) (l := [fnV 122, fnV 123, fnV 124]) rfl h

/-- A network as the program has it. -/
structure NetOk (n : Nat) (ws : List Wr) : Prop where
  two : 2 ≤ n
  most : n ≤ 8
  few : ws.length ≤ 16
  wf : Wf n ws

theorem net_box {w : World} {b : Nat} {n : Int} {wv : Value} (h : w.heap[b]? = some (.cells #[.int .i64 n, wv] 80 (0, 0))) (K : Value → Prop) : ldN 2 w (ptrV b) K = K (netV n wv) := r_ldRow h rfl

theorem rd_one {w : World} {b : Nat} {x : Int} (h : w.heap[b]? = some (.cells #[.int .i64 x] 3 (0, 0))) : RdInts w (.slice (some ⟨b, 0, none⟩) 1 1) [x] :=
  ⟨_, _, rfl, ⟨by simp, by simp⟩, fun _ => ⟨b, 0, rfl, fun i hi => by
    have : i = 0 := by simpa using hi
    subst this
    rw [cell_row h]; rfl⟩⟩
theorem rd_two {w : World} {b : Nat} {x y : Int} (h : w.heap[b]? = some (.cells #[.int .i64 x, .int .i64 y] 3 (0, 0))) : RdInts w (.slice (some ⟨b, 0, none⟩) 2 2) [x, y] :=
  ⟨_, _, rfl, ⟨by simp, by simp⟩, fun _ => ⟨b, 0, rfl, fun i hi => by
    have : i = 0 ∨ i = 1 := by simp at hi; omega
    rcases this with rfl | rfl <;> (rw [cell_row h]; rfl)⟩⟩
set_option maxRecDepth 100000 in
theorem bs34_2 (x y : Int) (w : World) (K : Value → World → Prop) : bsW Tryd.prog 34 2 [(0, .int .i64 x), (1, .int .i64 y)] w K = K (.slice (some ⟨w.heap.size, 0, none⟩) 2 2) (w.alloc (.cells #[.int .i64 x, .int .i64 y] 3)) := by kernel_rfl

theorem red_det {n : Nat} {ws : List Wr} {wo : List Int} {v : Value} {base : Nat} (w : World) (hN : NetOk n ws) (hlen : (keepN n wo).length ≤ 7) (hm : IMat base w v (redM n wo (lap ws))) (hb : base ≤ w.heap.size) :
    Calls Tryd.prog 70 #[kV, v] w fun e w' => e = .returned (.int .i64 (det (keepN n wo).length (hat (redM n wo (lap ws))))) ∧ Below base w w' := by
  obtain ⟨h1, h2⟩ := red_rowed (M := redM n wo (lap ws)) (c := 1000) hN.wf hN.few hlen fun i j _ _ => Nat.le_add_right _ _
  exact det_calls w hm (red_sized n wo _) (by omega) h1 h2 hb

set_option maxRecDepth 100000 in
theorem trees_calls {n : Nat} {ws : List Wr} {wv : Value} (w : World) (hw : Wh w) (hN : NetOk n ws) (hwv : Rd 2 wN w wv ws) : Calls Tryd.prog 55 #[netV n wv] w fun e w' => e = .returned (.int .i64 (trees n ws)) ∧ Kp w w' := by
  have h2 := hN.two
  have h8 := hN.most
  refine lift55 ?_
  unfold S55
  refine r_box fun b1 w1 e1 s1 h1 k1 => ?_
  refine r_drew fun w2 k2 _ => ?_
  have k02 := Kp.trans k1 k2
  rw [(hw.kp k02).ld, net_box (block_below (show w1.heap[b1]? = some (.cells #[.int .i64 n, wv] 80 (0, 0)) from h1) k2), bs34]
  refine r_keep (below_alloc _) ?_
  have k3 : Kp w2 (w2.alloc (.cells #[.int .i64 0] 3)) := below_alloc _
  have hnew := heap_alloc_new w2 (.cells #[.int .i64 0] 3)
  generalize w2.alloc (.cells #[.int .i64 0] 3) = w3 at *
  have k03 := Kp.trans k02 k3
  refine r_use fok71 (lap_calls w3 (by omega) (rd_one hnew) (by simp) hN.wf hN.few (hwv.kp k03)) rfl ?_
  rintro _ w4 ⟨v, rfl, hm, k4⟩
  refine ⟨_, rfl, r_keep k4 ?_⟩
  have hk : keepN n [(0 : Int)] = keepN n [((0 : Nat) : Int)] := rfl
  have hkl : (keepN n [(0 : Int)]).length = n - 1 := by rw [hk, keep_one_len (by omega)]
  refine r_use fok70 (red_det w4 hN (by omega) hm k4.size) rfl ?_
  rintro _ w5 ⟨rfl, k5⟩
  refine ⟨_, rfl, ?_, Kp.trans k03 (Below.trans k4 k5)⟩
  rw [hkl, show ([(0 : Int)]) = [((0 : Nat) : Int)] from rfl, det_red1 ws (by omega), det_trees hN.wf (by omega)]

set_option maxRecDepth 100000 in
theorem merged_calls {n s t : Nat} {ws : List Wr} {wv : Value} (w : World) (hw : Wh w) (hN : NetOk n ws) (hwv : Rd 2 wN w wv ws) (hs : s < n) (ht : t < n) (hst : s ≠ t) :
    Calls Tryd.prog 56 #[netV n wv, .int .i64 s, .int .i64 t] w fun e w' => e = .returned (.int .i64 (volt n ws s t)) ∧ Kp w w' := by
  have h2 := hN.two
  have h8 := hN.most
  refine lift56 ?_
  unfold S56
  refine r_box fun b1 w1 e1 s1 h1 k1 => ?_
  refine r_drew fun w2 k2 _ => ?_
  have k02 := Kp.trans k1 k2
  rw [(hw.kp k02).ld, net_box (block_below (show w1.heap[b1]? = some (.cells #[.int .i64 n, wv] 80 (0, 0)) from h1) k2), bs34_2]
  refine r_keep (below_alloc _) ?_
  have k3 : Kp w2 (w2.alloc (.cells #[.int .i64 s, .int .i64 t] 3)) := below_alloc _
  have hnew := heap_alloc_new w2 (.cells #[.int .i64 s, .int .i64 t] 3)
  generalize w2.alloc (.cells #[.int .i64 s, .int .i64 t] 3) = w3 at *
  have k03 := Kp.trans k02 k3
  refine r_use fok71 (lap_calls w3 (by omega) (rd_two hnew) (by simp) hN.wf hN.few (hwv.kp k03)) rfl ?_
  rintro _ w4 ⟨v, rfl, hm, k4⟩
  refine ⟨_, rfl, r_keep k4 ?_⟩
  have hkl : (keepN n [(s : Int), (t : Int)]).length = n - 2 := keep_two_len ht hs hst
  refine r_use fok70 (red_det w4 hN (by omega) hm k4.size) rfl ?_
  rintro _ w5 ⟨rfl, k5⟩
  refine ⟨_, rfl, ?_, Kp.trans k03 (Below.trans k4 k5)⟩
  rw [hkl, det_red2 ws ht hs hst, det_volt hN.wf]

/-- The number of a vertex without t. -/
def atN (t v : Nat) : Nat := if t < v then v - 1 else v
theorem sk_atN {t v : Nat} (h : v ≠ t) : sk t (atN t v) = v := by
  unfold sk atN
  split <;> split <;> omega
theorem atN_lt {n t v : Nat} (hv : v < n) (ht : t < n) (h : v ≠ t) : atN t v < n - 1 := by unfold atN; split <;> omega
theorem at_calls {t v b : Nat} (w : World) (hv : v ≤ 1000) (hc : w.cell? ⟨b, 0, none⟩ = some (.int .i64 t)) : Calls Tryd.prog 72 #[.int .i64 v, ptrV b] w fun e w' => e = .returned (.int .i64 (atN t v)) ∧ w = w' := by
  refine lift72 ?_
  unfold S72 atN
  rw [r_ld hc, r_gtr]
  by_cases h : t < v
  · have h' : (t : Int) < (v : Int) := by omega
    simp only [decide_eq_true h', r_condT]
    rw [r_sub _ _ (by omega) (by omega), if_pos h]
    exact ⟨ret_int (by omega), by first | rfl | trivial⟩
  · have h' : ¬ (t : Int) < (v : Int) := by omega
    simp only [h', decide_false, r_condF]
    rw [if_neg h]
    exact ⟨rfl, by first | rfl | trivial⟩

theorem IMatV.bump {base : Nat} {w : World} {v : Value} {vs : List Value} {R : List (List Int)} {n : Nat} (h : IMatV base w v vs R) (hs : Sized n n R) {i j : Nat} (hi : i < n) (hj : j < n) {f : Nat → Nat → Int} (hf : ∀ a b, a < n → b < n → hat R a b = f a b) :
    ∃ d c, vs[i]? = some (.slice (some ⟨d, 0, none⟩) n c) ∧ (∀ K : Value → Prop, (iaS 1 v (.int .i64 i) fun p => ld1 w p K) = K (.slice (some ⟨d, 0, none⟩) n c)) ∧ w.cell? ⟨d, j, none⟩ = some (.int .i64 (f i j)) ∧ w.frozen? ⟨d, j, none⟩ = false ∧ base ≤ d ∧
      ∀ x, ∃ R', IMatV base (w.setCell ⟨d, j, none⟩ (.int .i64 x)) v vs R' ∧ Sized n n R' ∧ ∀ a b, a < n → b < n → hat R' a b = if a = i ∧ b = j then x else f a b := by
  have hlen := hs.1
  have hrow := hs.2 i hi
  obtain ⟨u0, hu0, I0, ld0⟩ := h.ldK (i := i) (by omega)
  obtain ⟨g, cap, q, c, ev, hcell, _, hbq, hq, hfr, ⟨u', hu', hd'⟩, hput⟩ := h.put (i := i) (j := j) (by omega) (by omega)
  have hii : (i : Int).toNat = i := by omega
  have ld1' : ∀ K : Value → Prop, (iaS 1 v (.int .i64 i) fun p => ld1 w p K) = K (.slice (some ⟨q, 0, none⟩) n c) := fun K => by
    rw [ev, r_iaS _ _ _ _ _ _ _ (by omega) (by omega), hii, Nat.mul_one, Nat.zero_add, r_ld hcell, hrow]
  have e : u0 = .slice (some ⟨q, 0, none⟩) n c := by
    have h1 := ld0 fun x => x = u0
    rw [ld1'] at h1
    exact (h1.mpr rfl).symm
  refine ⟨q, c, by rw [hu0, e], ld1', by rw [hq, hf i j hi hj], hfr, hbq, fun x => ⟨_, hput x, put2_sized hs hi x, fun a b ha hb => ?_⟩⟩
  rw [put2_hat _ _ _ _ _ _ (by omega) (by omega)]
  by_cases e : a = i ∧ b = j
  · rw [if_pos e, if_pos e]
  · rw [if_neg e, if_neg e, hf a b ha hb]

set_option maxRecDepth 100000 in
set_option maxHeartbeats 2000000 in
theorem pot_calls {n s t v : Nat} {ws : List Wr} {wv : Value} (w : World) (hw : Wh w) (hN : NetOk n ws) (hwv : Rd 2 wN w wv ws) (hs : s < n) (ht : t < n) (hv : v < n) (hst : s ≠ t) :
    Calls Tryd.prog 57 #[netV n wv, .int .i64 s, .int .i64 t, .int .i64 v] w fun e w' => e = .returned (.int .i64 (pot n ws s t v)) ∧ Kp w w' := by
  have h2 := hN.two
  have h8 := hN.most
  refine lift57 ?_
  unfold S57
  refine r_box fun b4 w1 e1 s1 h1 k1 => ?_
  refine r_box fun b6 w2 e2 s2 h2' k2 => ?_
  have h6 : w2.heap[b6]? = some (.cells #[.int .i64 t] 3 (0, 0)) := h2'
  have k02 := Kp.trans k1 k2
  have c6 : w2.cell? ⟨b6, 0, none⟩ = some (.int .i64 t) := by rw [cell_row h6]; rfl
  rw [r_ld c6, r_eql]
  by_cases hvt : v = t
  · have hvt' : (v : Int) = (t : Int) := by omega
    simp only [decide_eq_true hvt', r_condT]
    refine ⟨ret_int ?_, k02⟩
    rw [hvt, pot_t]; rfl
  have hvt' : ¬ (v : Int) = (t : Int) := by omega
  simp only [hvt', decide_false, r_condF]
  rw [net_box (block_below (show w1.heap[b4]? = some (.cells #[.int .i64 n, wv] 80 (0, 0)) from h1) k2), r_ld c6, bs34]
  have k3 : Kp w2 (w2.alloc (.cells #[.int .i64 t] 3)) := below_alloc _
  have hnew := heap_alloc_new w2 (.cells #[.int .i64 t] 3)
  generalize w2.alloc (.cells #[.int .i64 t] 3) = w3 at *
  have k03 := Kp.trans k02 k3
  refine r_use fok71 (lap_calls w3 (by omega) (rd_one hnew) (by simp) hN.wf hN.few (hwv.kp k03)) rfl ?_
  rintro _ w4 ⟨m, rfl, hm, k4⟩
  refine ⟨_, rfl, ?_⟩
  have k04 := Kp.trans k03 k4
  have c64 := cell_later (Kp.trans k3 k4) c6
  obtain ⟨ma, mc, em, _⟩ := hm.len
  have hkl : (keepN n [(t : Int)]).length = n - 1 := keep_one_len ht
  have hsz := red_sized n [(t : Int)] (lap ws)
  rw [hkl] at hsz
  have lnm : ∀ K : Value → Prop, ln1 m K = K (.int .i64 ((n - 1 : Nat) : Int)) := fun K => by rw [em, hsz.1]; rfl
  have hav := atN_lt hv ht hvt
  have has := atN_lt hs ht hst
  rw [lnm]
  unfold S57L0
  refine ⟨fun t23 wr => ∃ (i : Nat) (vs : List Value) (M : List (List Int)), i ≤ n - 1 ∧ t23 = .int .i64 i ∧ IMatV w3.heap.size wr m vs M ∧ Sized (n - 1) (n - 1) M ∧ (∀ a b, a < n - 1 → b < n - 1 → hat M a b = if a < i ∧ b = atN t v then (if a = atN t s then 1 else 0) else hat (redM n [(t : Int)] (lap ws)) a b) ∧ Kp w3 wr, fun t23 _ => n - 1 - (intOf t23).toNat,
    (let ⟨vs, hm⟩ := hm; ⟨0, vs, _, by omega, rfl, hm, hsz, fun a b _ _ => by rw [if_neg (by omega)], k4⟩), ?_⟩
  rintro _ _ wr ⟨i, vs, M, hi, rfl, hM, hS, hH, kr⟩
  have k0r := Kp.trans k03 kr
  have hszr := kr.size
  by_cases hlt : i < n - 1
  case neg =>
    have hlt' : ¬ (i : Int) < ((n - 1 : Nat) : Int) := by omega
    simp only [r_lss, hlt', decide_false, r_condF]
    rw [(hw.kp k0r).ld]
    have hH' : ∀ a b, a < n - 1 → b < n - 1 → hat M a b = if b = atN t v then (if a = atN t s then 1 else 0) else hat (redM n [(t : Int)] (lap ws)) a b := fun a b ha hb => by
      rw [hH a b ha hb]
      by_cases e : b = atN t v
      · rw [if_pos ⟨by omega, e⟩, if_pos e]
      · rw [if_neg (fun h => e h.2), if_neg e]
    obtain ⟨q1, q2⟩ := red_rowed (wo := [(t : Int)]) (M := M) (c := atN t v) hN.wf hN.few (by omega) fun a b ha hb => by
      rw [hkl] at ha hb
      rw [hH' a b ha hb]
      by_cases e : b = atN t v
      · rw [if_pos e, if_pos e]; split <;> simp
      · rw [if_neg e, if_neg e]; exact Nat.le_refl _
    rw [hkl] at q1 q2
    refine r_use fok70 (det_calls (n := n - 1) wr ⟨vs, hM⟩ hS (by omega) q1 q2 hszr) rfl ?_
    rintro _ w5 ⟨rfl, k5⟩
    refine ⟨_, rfl, ?_, Kp.trans k03 (Below.trans kr k5)⟩
    rw [det_cramer ws ht (sk_atN hst) (sk_atN hvt) hvt hH', det_pot hN.wf hs hv hst hvt]
  have hlt' : (i : Int) < ((n - 1 : Nat) : Int) := by omega
  simp only [r_lss, decide_eq_true hlt', r_condT]
  have c6r := cell_later (Kp.trans k3 kr) c6
  have hb6 : b6 < w3.heap.size := by
    have := block_lt (block_below h6 k3); exact this
  obtain ⟨d, c, hvs, lu, cd, fd, hbd, hput⟩ := hM.bump hS hlt hav hH
  have hvv : ((atN t v : Nat) : Int).toNat = atN t v := by omega
  have iu : ∀ K : Value → Prop, iaS 1 (.slice (some ⟨d, 0, none⟩) (n - 1) c) (.int .i64 (atN t v)) K = K (.pointer (some ⟨d, atN t v, none⟩)) := fun K => by
    rw [r_iaS _ _ _ _ _ _ _ (by omega) (by omega), hvv, Nat.mul_one, Nat.zero_add]
  rw [lu]
  refine r_use fok72 (at_calls wr (by omega) c6r) rfl ?_
  rintro _ _ ⟨rfl, rfl⟩
  refine ⟨_, rfl, ?_⟩
  rw [iu, st3 cd fd]
  obtain ⟨M1, hM1, hS1, hH1⟩ := hput 0
  have hch1 : Chg (fun k => k = d) wr (wr.setCell ⟨d, atN t v, none⟩ (.int .i64 0)) := Chg.setCell _ _ rfl
  have k5 : Kp w3 (wr.setCell ⟨d, atN t v, none⟩ (.int .i64 0)) := Kp.of_chg kr hch1 fun k e => by omega
  have c65 := hch1.cell c6r (show ¬ b6 = d by omega)
  generalize wr.setCell ⟨d, atN t v, none⟩ (.int .i64 0) = w5 at *
  refine r_use fok72 (at_calls w5 (by omega) c65) rfl ?_
  rintro _ _ ⟨rfl, rfl⟩
  refine ⟨_, rfl, ?_⟩
  rw [r_eql]
  have hnext : ∀ (w6 : World) (M' : List (List Int)), IMatV w3.heap.size w6 m vs M' → Sized (n - 1) (n - 1) M' → (∀ a b, a < n - 1 → b < n - 1 → hat M' a b = if a = i ∧ b = atN t v then (if i = atN t s then 1 else 0) else if a < i ∧ b = atN t v then (if a = atN t s then 1 else 0) else hat (redM n [(t : Int)] (lap ws)) a b) → Kp w3 w6 →
      (binQ Tryd.prog w6 .add 3 true (.int .i64 i) (.int .i64 1) fun t43_2 => (∃ (i : Nat) (vs : List Value) (M : List (List Int)), i ≤ n - 1 ∧ t43_2 = .int .i64 i ∧ IMatV w3.heap.size w6 m vs M ∧ Sized (n - 1) (n - 1) M ∧ (∀ a b, a < n - 1 → b < n - 1 → hat M a b = if a < i ∧ b = atN t v then (if a = atN t s then 1 else 0) else hat (redM n [(t : Int)] (lap ws)) a b) ∧ Kp w3 w6) ∧ n - 1 - (intOf t43_2).toNat < n - 1 - (intOf (.int .i64 (i : Int))).toNat) := fun w6 M' h1 h2 h3 h4 => by
    rw [r_add _ _ (by omega) (by omega)]
    refine ⟨⟨i + 1, vs, M', by omega, by go_num, h1, h2, fun a b ha hb => ?_, h4⟩, by simp only [intOf]; omega⟩
    rw [h3 a b ha hb]
    by_cases e : a = i ∧ b = atN t v
    · rw [if_pos e, if_pos (show a < i + 1 ∧ b = atN t v from ⟨by omega, e.2⟩), e.1]
    · rw [if_neg e]
      by_cases e' : a < i ∧ b = atN t v
      · rw [if_pos e', if_pos (show a < i + 1 ∧ b = atN t v from ⟨by omega, e'.2⟩)]
      · rw [if_neg e', if_neg (show ¬ (a < i + 1 ∧ b = atN t v) by omega)]
  refine r_join0 (fun w6 => ∃ M', IMatV w3.heap.size w6 m vs M' ∧ Sized (n - 1) (n - 1) M' ∧ (∀ a b, a < n - 1 → b < n - 1 → hat M' a b = if a = i ∧ b = atN t v then (if i = atN t s then 1 else 0) else if a < i ∧ b = atN t v then (if a = atN t s then 1 else 0) else hat (redM n [(t : Int)] (lap ws)) a b) ∧ Kp w3 w6) ?_ fun kk hkk => ?_
  · rintro w6 ⟨M', h1, h2, h3, h4⟩
    exact hnext w6 M' h1 h2 h3 h4
  by_cases hs' : i = atN t s
  case neg =>
    have hs'' : ¬ (i : Int) = ((atN t s : Nat) : Int) := by omega
    simp only [hs'', decide_false, r_condF]
    rw [if_neg hs'] at hkk
    exact hkk _ ⟨M1, hM1, hS1, hH1, k5⟩
  have hs'' : (i : Int) = ((atN t s : Nat) : Int) := by omega
  simp only [decide_eq_true hs'', r_condT]
  rw [if_pos hs'] at hkk
  refine r_use fok72 (at_calls w5 (by omega) c65) rfl ?_
  rintro _ _ ⟨rfl, rfl⟩
  refine ⟨_, rfl, ?_⟩
  obtain ⟨d', c', hvs', _, cd', fd', hbd', hput'⟩ := hM1.bump hS1 hlt hav hH1
  rw [hvs] at hvs'
  cases hvs'
  rw [iu, st3 cd' fd']
  obtain ⟨M2, hM2, hS2, hH2⟩ := hput' 1
  refine hkk _ ⟨M2, hM2, hS2, fun a b ha hb => ?_, Kp.of_chg k5 (Chg.setCell (S := fun k => k = d) w5 (p := ⟨d, atN t v, none⟩) _ rfl) fun k e => by omega⟩
  rw [hH2 a b ha hb]
  by_cases e : a = i ∧ b = atN t v
  · rw [if_pos e, if_pos e]
  · rw [if_neg e, if_neg e, if_neg e]

end Go.Proofs.YtkdcldbedbagjaaDoor
