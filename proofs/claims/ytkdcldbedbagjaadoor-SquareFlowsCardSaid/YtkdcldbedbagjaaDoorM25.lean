/- Texts of my own, merged by program: Xw Yb Ya. -/
import Derived.Test.YtkdcldbedbagjaaDoorM24
import Derived.Test.YtkdcldbedbagjaaDoorM18
set_option linter.all false
/- Contracts of the reference: Through, Resistance, Chance. -/
namespace Go.Proofs.YtkdcldbedbagjaaDoor
open Go.Lf Go.RowKit Go.Dt

theorem wayV_abs (l : List Wr) (m s t i : Nat) : -1 ≤ wayV l m s t i ∧ wayV l m s t i ≤ 1 := by
  unfold wayV
  split <;> split <;> omega
theorem wayS_abs (l : List Wr) (s t i : Nat) : ∀ ms : List Nat, (ms.map fun m => wayV l m s t i).sum.natAbs ≤ ms.length
  | [] => by simp
  | m :: ms => by
    have := wayS_abs l s t i ms
    have := wayV_abs l m s t i
    rw [List.map_cons, List.sum_cons, List.length_cons]
    omega
theorem take_sum {ms : List Nat} {k : Nat} (f : Nat → Int) (hk : k < ms.length) : ((ms.take (k + 1)).map f).sum = ((ms.take k).map f).sum + f (ms.getD k 0) := by
  rw [List.take_succ_eq_append_getElem hk, List.map_append, List.sum_append, getD_lt _ _ _ hk]; simp
theorem way_flow {n s t i : Nat} {ws : List Wr} (hl : Wf n ws) (hs : s < n) (ht : t < n) (hst : s ≠ t) (h0 : trees n ws ≠ 0) (hi : i < ws.length) : ((forL n ws).map fun m => wayV ws m s t i).sum = (flowC n ws s t).getD i 0 := by
  rw [flowC_at hi, getD_lt _ _ _ hi]
  exact way_sum hl hs ht hst h0 hi

set_option maxRecDepth 100000 in
theorem bd36_3 {x y : Int} {a : Option Addr} {m c : Nat} {K : Value → Prop} : bdQ Tryd.prog 36 [(0, .slice a m c), (1, .int .i64 x), (2, .int .i64 y)] K = K (flV (.slice a m c) x y) := by kernel_rfl

set_option maxRecDepth 100000 in
set_option maxHeartbeats 2000000 in
/-- The currents grow by the way of one tree. -/
theorem r28_1 {b13 g base : Nat} {cv t57 : Value} {acc wl : List Int} {p q k : Int} {w1 : World} {next : Value → World → Prop} (hl : acc.length = wl.length) (hl16 : wl.length ≤ 16) (hg : cv.ownBlock = some g) (hI : IntsAt base w1 cv acc) (hW : IntsAt base w1 t57 wl) (hwg : ∀ a, t57.ownBlock = some a → a ≠ g)
    (h13 : w1.heap[b13]? = some (.cells #[cv, .int .i64 p, .int .i64 q] 36 (0, 0))) (hb : b13 ≠ g) (hsm : ∀ i, i < acc.length → (acc.getD i 0).natAbs ≤ 1000000) (hsw : ∀ i, i < acc.length → (wl.getD i 0).natAbs ≤ 1000000)
    (hnext : ∀ w' acc', acc'.length = acc.length → (∀ i, i < acc.length → acc'.getD i 0 = acc.getD i 0 + wl.getD i 0) → IntsAt base w' cv acc' → Chg (fun a => a = g) w1 w' → binQ Tryd.prog w' .add 3 true (.int .i64 k) (.int .i64 1) fun t48 => next t48 w') :
    S28L1 (ptrV b13) (.int .i64 k) t57 next w1 := by
  obtain ⟨wa, wc, ew, _⟩ := RecAt.len hW
  have lnw : ∀ K : Value → Prop, ln1 t57 K = K (.int .i64 acc.length) := fun K => by rw [ew, hl]; rfl
  unfold S28L1
  refine ⟨fun t16 wr => ∃ (i : Nat) (acc' : List Int), i ≤ acc.length ∧ t16 = .int .i64 i ∧ acc'.length = acc.length ∧ (∀ a, a < i → acc'.getD a 0 = acc.getD a 0 + wl.getD a 0) ∧ (∀ a, i ≤ a → acc'.getD a 0 = acc.getD a 0) ∧ IntsAt base wr cv acc' ∧ Chg (fun a => a = g) w1 wr,
    fun t16 _ => acc.length - (intOf t16).toNat, ⟨0, acc, by omega, rfl, rfl, fun a h => by omega, fun a _ => rfl, hI, Chg.refl _ _⟩, ?_⟩
  rintro _ _ wr ⟨i, acc', hi, rfl, hl', hlo, hhi, hI, cr⟩
  rw [lnw]
  by_cases hlt : i < acc.length
  case neg =>
    have hlt' : ¬ (i : Int) < (acc.length : Int) := by omega
    rw [r_lss, decide_eq_false hlt', r_condF]
    exact hnext wr acc' hl' (fun a h => hlo a (by omega)) hI cr
  have hlt' : (i : Int) < (acc.length : Int) := by omega
  rw [r_lss, decide_eq_true hlt', r_condT]
  refine r_drew fun w2 k2 _ => ?_
  have c2 : Chg (fun a => a = g) w1 w2 := cr.trans (Chg.of_kp k2)
  have b0 : w2.cell? ⟨b13, 0, none⟩ = some cv := by rw [cell_row (c2.at h13 hb)]; rfl
  have hI2 := RecAt.kp hI k2
  have hW2 : IntsAt base w2 t57 wl := RecAt.chg hW c2 fun a ha e => hwg a ha e
  obtain ⟨g', eg, ar⟩ := IntsAt.ar hI2 (by omega)
  obtain rfl : g' = g := by rw [hg] at eg; injection eg with eg; exact eg.symm
  obtain ⟨iA, cA, fA, sA⟩ := ar i (by omega)
  obtain ⟨h, _, arw⟩ := IntsAt.ar hW2 (by omega)
  obtain ⟨iB, cB, _, _⟩ := arw i (by omega)
  rw [hhi i (Nat.le_refl _)] at cA
  have s1 := hsm i hlt
  have s2 := hsw i hlt
  rw [r_fa, Nat.zero_add, r_ld b0, iA, r_ld cA, iB, r_ld cB, r_add _ _ (by omega) (by omega), iA, st3 cA fA, r_add _ _ (by omega) (by omega)]
  have ch : Chg (fun a => a = g') w2 (w2.setCell ⟨g', i, none⟩ (.int .i64 (acc.getD i 0 + wl.getD i 0))) := Chg.setCell _ _ rfl
  refine ⟨⟨i + 1, acc'.set i (acc.getD i 0 + wl.getD i 0), by omega, by go_num, by rw [List.length_set]; exact hl', fun a ha => ?_, fun a ha => ?_, sA _, c2.trans ch⟩, by simp only [intOf]; omega⟩
  · by_cases e : i = a
    · subst e; rw [setD_eq (by omega)]
    · rw [setD_ne e]; exact hlo a (by omega)
  · rw [setD_ne (by omega)]; exact hhi a (by omega)

set_option maxRecDepth 100000 in
set_option maxHeartbeats 2000000 in
theorem r28_0 {n s t b8 b13 : Nat} {ws : List Wr} {v cv t31 : Value} {w0 wm : World} {R : Ending → World → Prop} (hN : NetOk n ws) (hs : s < n) (ht : t < n) (hst : s ≠ t) (h0 : trees n ws ≠ 0) (hr : Rd 2 wN w0 v ws) (km : Kp w0 wm)
    (hL : IntsAt w0.heap.size wm t31 (natI (forL n ws))) (hI : IntsAt w0.heap.size wm cv (List.replicate ws.length 0)) (hsep : ∀ a, t31.ownBlock = some a → cv.ownBlock ≠ some a) (hb8 : cv.ownBlock ≠ some b8) (hb13 : cv.ownBlock ≠ some b13) (hw0 : 0 < ws.length) (h8w : w0.heap.size ≤ b8)
    (h8 : wm.heap[b8]? = some (.cells #[.slice none 0 0, .int .i64 0, .int .i64 0] 36 (0, 0)))
    (h13 : wm.heap[b13]? = some (.cells #[cv, .int .i64 (trees n ws : Nat), .int .i64 (volt n ws s t : Nat)] 36 (0, 0)))
    (hR : ∀ w', IntsAt w0.heap.size w' cv (flowC n ws s t) → Kp w0 w' → R (.returned (.tuple #[flV cv (trees n ws : Nat) (volt n ws s t : Nat), .int .i64 0])) w') :
    S28L0 (.int .i64 n) v (.int .i64 s) (.int .i64 t) (ptrV b8) (ptrV b13) t31 R wm := by
  have hfl := forL_len n ws
  have sT := trees_small (n := n) hN.few
  obtain ⟨la, lc, el, _⟩ := RecAt.len hL
  have lnl : ∀ K : Value → Prop, ln1 t31 K = K (.int .i64 (forL n ws).length) := fun K => by rw [el, natI_len]; rfl
  obtain ⟨g, eg, _⟩ := IntsAt.ar hI (by simpa using hw0)
  have lg := RecAt.lt hI eg
  unfold S28L0
  refine ⟨fun t14 wr => ∃ (k : Nat) (acc : List Int), k ≤ (forL n ws).length ∧ t14 = .int .i64 k ∧ acc.length = ws.length ∧ (∀ i, i < ws.length → acc.getD i 0 = (((forL n ws).take k).map fun m => wayV ws m s t i).sum) ∧ IntsAt w0.heap.size wr cv acc ∧ Chg (fun a => a = g) wm wr,
    fun t14 _ => (forL n ws).length - (intOf t14).toNat, ⟨0, _, by omega, rfl, by simp, fun i hi => by simp [List.getD_eq_getElem?_getD, List.getElem?_replicate]; split <;> rfl, hI, Chg.refl _ _⟩, ?_⟩
  rintro _ _ wr ⟨k, acc, hk, rfl, hal, hacc, hI, cr⟩
  have k0r : Kp w0 wr := Kp.of_chg km cr fun q e => by omega
  have h13r := cr.at h13 fun e => hb13 (by rw [e]; exact eg)
  have h8r := cr.at h8 fun e => hb8 (by rw [e]; exact eg)
  rw [lnl]
  by_cases hlt : k < (forL n ws).length
  case neg =>
    have hlt' : ¬ (k : Int) < ((forL n ws).length : Int) := by omega
    rw [r_lss, decide_eq_false hlt', r_condF, flow_box h13r]
    obtain ⟨ca, cc, ec, _⟩ := RecAt.len hI
    have hcv : cv = .slice ca acc.length cc := ec
    rw [hcv]
    refine st36 h8r fun w3 c3 s3 h83 => ?_
    rw [flow_box h83, ← hcv]
    have hacc' : acc = flowC n ws s t := by
      have fl : (flowC n ws s t).length = ws.length := by simp [flowC]
      refine List.ext_getElem (by omega) fun i h1 h2 => ?_
      rw [← getD_lt acc _ 0 h1, ← getD_lt (flowC n ws s t) _ 0 h2, hacc i (by omega), List.take_of_length_le (by omega), way_flow hN.wf hs ht hst h0 (by omega)]
    refine hR w3 ?_ (Kp.of_chg k0r c3 fun q e => by omega)
    rw [← hacc']
    exact RecAt.chg hI c3 fun a ha e => hb8 (by rw [← e]; exact ha)
  have hlt' : (k : Int) < ((forL n ws).length : Int) := by omega
  rw [r_lss, decide_eq_true hlt', r_condT]
  have hLr : IntsAt w0.heap.size wr t31 (natI (forL n ws)) := RecAt.chg hL cr fun a ha e => hsep a ha (by rw [e]; exact eg)
  obtain ⟨h, _, arl⟩ := IntsAt.ar hLr (by rw [natI_len]; omega)
  obtain ⟨iL, cL, _, _⟩ := arl k (by rw [natI_len]; exact hlt)
  rw [natI_get hlt] at cL
  rw [iL, r_ld cL]
  have hmem : (forL n ws).getD k 0 ∈ forL n ws := getD_mem hlt
  have hRF := (forL_mem hmem).1
  refine r_use fok61 (way_calls (m := (forL n ws).getD k 0) wr hN.wf hN.few hN.most hs ht hRF (hr.kp k0r)) rfl ?_
  rintro _ w2 ⟨k2, v2, rfl, hW⟩
  refine ⟨_, rfl, ?_⟩
  have lgr : g < wr.heap.size := (RecAt.lt hI eg).2
  have szr := k0r.size
  have hwl := wayL_len ws ((forL n ws).getD k 0) s t
  have hfew := hN.few
  refine r28_1 (g := g) (base := w0.heap.size) (acc := acc) (wl := wayL ws ((forL n ws).getD k 0) s t) (by rw [hwl, hal]) (by omega) eg (RecAt.kp hI k2) (RecAt.down hW szr) (fun a ha e => by have := (RecAt.lt hW ha).1; omega)
    (block_below h13r k2) (fun e => hb13 (by rw [e]; exact eg)) (fun i hi => ?_) (fun i hi => ?_) fun w3 acc' e1 e2 hI3 c3 => ?_
  · rw [hacc i (by omega)]
    have := wayS_abs ws s t i ((forL n ws).take k)
    rw [List.length_take] at this
    omega
  · rw [wayL_get (by omega)]
    have := wayV_abs ws ((forL n ws).getD k 0) s t i
    omega
  · rw [r_add _ _ (by omega) (by omega)]
    refine ⟨⟨k + 1, acc', by omega, by go_num, by omega, fun i hi => ?_, hI3, cr.trans ((Chg.of_kp k2).trans c3)⟩, by simp only [intOf]; omega⟩
    rw [e2 i (by omega), hacc i hi, take_sum (fun m => wayV ws m s t i) hlt, wayL_get hi]

set_option maxRecDepth 100000 in
set_option maxHeartbeats 2000000 in
theorem rThrough_calls {v : Value} {L : List (Int × Int)} {n s t : Int} (w : World) (hr : RdW w v L) :
    Calls Tryd.prog 28 #[.int .i64 n, v, .int .i64 s, .int .i64 t] w fun e w' => Kp w w' ∧ ∃ cv, e = .returned (.tuple #[flV cv (thT n L s t) (thV n L s t), .int .i64 (thE n L s t)]) ∧ IntsAt w.heap.size w' cv (thC n L s t) := by
  obtain ⟨va, vc, ev, _⟩ := hr.len
  have lnv : ∀ K : Value → Prop, ln1 v K = K (.int .i64 L.length) := fun K => by rw [ev]; rfl
  refine lift28 ?_
  unfold S28
  refine r_box fun b8 w1 e8 s8 h8 k1 => ?_
  have h8' : w1.heap[b8]? = some (.cells #[.slice none 0 0, .int .i64 0, .int .i64 0] 36 (0, 0)) := h8
  refine r_use fok27 (rMerged_calls (n := n) (s := s) (t := t) w1 (hr.kp k1)) rfl ?_
  rintro _ w2 ⟨k2, rfl⟩
  refine ⟨_, rfl, ?_⟩
  have k02 := Kp.trans k1 k2
  have sz1 := k1.size
  rw [r_ex2a, r_ex2b, r_neq]
  have empty : ∀ (w' : World) (E : Int), thE n L s t = E → E ≠ 0 → Kp w w' → w'.heap[b8]? = some (.cells #[.slice none 0 0, .int .i64 0, .int .i64 0] 36 (0, 0)) →
      bdQ Tryd.prog 36 [] fun t27 => stW Tryd.prog 36 (ptrV b8) t27 w' fun w_1 => ldN 3 w_1 (ptrV b8) fun r => (Kp w w_1 ∧ ∃ cv, Ending.returned (Value.tuple #[r, .int .i64 E]) = .returned (.tuple #[flV cv (thT n L s t) (thV n L s t), .int .i64 (thE n L s t)]) ∧ IntsAt w.heap.size w_1 cv (thC n L s t)) := fun w' E hE h0 kk hb => by
    rw [bd36_0]
    refine st36 hb fun w4 c4 s4 h4 => ?_
    rw [flow_box h4]
    refine ⟨Kp.of_chg kk c4 fun q e => by omega, nilS, ?_, ?_⟩
    · unfold thT thV
      rw [hE, if_neg h0, if_neg h0]
    · unfold thC
      rw [hE, if_neg h0]
      exact RecAt.nil
  have h82 := block_below h8' k2
  by_cases h0 : endErr n L s t = 0
  case neg =>
    rw [decide_eq_false h0, Bool.not_false, r_condT]
    exact empty w2 _ (if_neg h0) h0 k02 h82
  rw [decide_eq_true h0, Bool.not_true, r_condF]
  obtain ⟨hn0, S, T, rfl, rfl, hS, hT, hST⟩ := end_ok h0
  obtain ⟨N, rfl, hN, hb⟩ := net_ok hn0
  have hNN : (N : Int).toNat = N := by omega
  have hSS : (S : Int).toNat = S := by omega
  have hTT : (T : Int).toNat = T := by omega
  have hE : thE N L S T = if trees N (L.map natW) = 0 then 10 else 0 := by unfold thE; rw [if_pos h0, hNN]
  have hM : mergedV N L S T = (volt N (L.map natW) S T : Nat) := by unfold mergedV; rw [if_pos h0, hNN, hSS, hTT]
  have hwv := RdW.nat hr hb
  have htwo := hN.two
  have hmost := hN.most
  have hfew := hN.few
  refine r_use fok59 (forests_calls (n := N) w2 hN.wf hN.few (by omega) hN.most (hwv.kp k02)) rfl ?_
  rintro _ w3 ⟨k3, t31, rfl, hF⟩
  refine ⟨_, rfl, ?_⟩
  have k03 := Kp.trans k02 k3
  have h83 := block_below h82 k3
  obtain ⟨fa, fc, ef, _⟩ := RecAt.len hF
  have lnf : ∀ K : Value → Prop, ln1 t31 K = K (.int .i64 (trees N (L.map natW) : Nat)) := fun K => by rw [ef, natI_len, forL_len]; rfl
  rw [lnf, r_eql]
  by_cases hz : trees N (L.map natW) = 0
  · have hz' : ((trees N (L.map natW) : Nat) : Int) = 0 := by omega
    rw [if_pos hz] at hE
    rw [decide_eq_true hz', r_condT]
    exact empty w3 10 hE (by decide) k03 h83
  have hz' : ¬ ((trees N (L.map natW) : Nat) : Int) = 0 := by omega
  rw [if_neg hz] at hE
  rw [decide_eq_false hz', r_condF, lnv]
  have hl0 : 0 < (L.map natW).length := Nat.pos_of_ne_zero fun h => hz (by
    rw [List.length_eq_zero_iff.1 h]
    exact cnt_false fun x hx hrf => by
      have := hrf.1
      rw [cnt_one (by omega), List.sublist_nil.1 hx] at this
      simp at this; omega)
  have hlm : (L.map natW).length = L.length := List.length_map ..
  refine mk34' (n := L.length) (by omega) fun cv w4 I4 k4 own4 => ?_
  have k04 := Kp.trans k03 k4
  rw [lnf]
  obtain ⟨ca, cc, ecv, _⟩ := RecAt.len I4
  rw [ecv, bd36_3]
  refine r_box fun b13 w5 e13 s13 h13 k5 => ?_
  have h13' : w5.heap[b13]? = some (.cells #[.slice none 0 0, .int .i64 0, .int .i64 0] 36 (0, 0)) := h13
  have sz2 := k02.size
  have sz3 := k03.size
  have sz4 := k4.size
  have sz34 := k04.size
  have lcv := (RecAt.lt I4 own4).2
  refine st36 h13' fun w6 c6 s6 h136 => ?_
  rw [← ecv] at h136
  have k46 : Kp w4 w6 := Kp.of_chg k5 c6 fun q e => by omega
  have k06 := Kp.trans k04 k46
  have b8lt : b8 < w3.heap.size := block_lt h83
  rw [hM] at h136
  have hI6 := RecAt.kp I4 k46
  refine r28_0 (n := N) (s := S) (t := T) (ws := L.map natW) (w0 := w) hN (by omega) (by omega) hST hz hwv k06 (RecAt.down (RecAt.kp hF (Kp.trans k4 k46)) (by omega)) (cv := cv) ?_ (fun a ha e => ?_) (fun e => ?_) (fun e => ?_) hl0 (by omega) (block_below h83 (Kp.trans k4 k46)) h136 fun w' hI' k' => ?_
  · rw [hlm]; exact RecAt.down hI6 sz3
  · rw [own4] at e; injection e with e
    have := (RecAt.lt hF ha).2
    omega
  · rw [own4] at e; injection e with e; omega
  · rw [own4] at e; injection e with e; omega
  · refine ⟨k', cv, ?_, ?_⟩
    · unfold thT thV
      rw [hE, if_pos rfl, if_pos rfl, hNN, hSS, hTT]
    · unfold thC
      rw [hE, if_pos rfl, hNN, hSS, hTT]
      exact hI'

theorem rsP_bad {n s t : Int} {L : List (Int × Int)} (h : thE n L s t ≠ 0) : rsP n L s t = (0, 0) := by
  unfold thE at h
  unfold rsP shP
  by_cases h1 : endErr n L s t = 0
  · rw [if_pos h1] at h ⊢
    by_cases h2 : trees n.toNat (L.map natW) = 0
    · rw [if_pos h2]
    · rw [if_neg h2] at h; exact absurd rfl h
  · rw [if_neg h1]

set_option maxRecDepth 100000 in
set_option maxHeartbeats 1000000 in
theorem rResist_calls {v : Value} {L : List (Int × Int)} {n s t : Int} (w : World) (hr : RdW w v L) :
    Calls Tryd.prog 38 #[.int .i64 n, v, .int .i64 s, .int .i64 t] w fun e w' => Kp w w' ∧ e = .returned (.tuple #[paV (rsP n L s t), .int .i64 (thE n L s t)]) := by
  refine lift38 ?_
  unfold S38
  refine r_box fun b8 w1 e8 s8 h8 k1 => ?_
  have h8' : w1.heap[b8]? = some (.cells #[.int .i64 0, .int .i64 0] 58 (0, 0)) := h8
  refine r_use fok28 (rThrough_calls (n := n) (s := s) (t := t) w1 (hr.kp k1)) rfl ?_
  rintro _ w2 ⟨k2, cv, rfl, hC⟩
  refine ⟨_, rfl, ?_⟩
  have k02 := Kp.trans k1 k2
  rw [r_ex2a, r_ex2b]
  obtain ⟨ca, cc, ecv, _⟩ := RecAt.len hC
  refine r_box fun b10 w3 e10 s10 h10 k3 => ?_
  have h10' : w3.heap[b10]? = some (.cells #[.slice none 0 0, .int .i64 0, .int .i64 0] 36 (0, 0)) := h10
  have sz2 := k02.size
  rw [ecv]
  refine st36 h10' fun w4 c4 s4 h4 => ?_
  have k24 : Kp w2 w4 := Kp.of_chg k3 c4 fun q e => by omega
  have k04 := Kp.trans k02 k24
  have h84 := block_below h8' (Kp.trans k2 k24)
  rw [r_neq]
  by_cases hE : thE n L s t = 0
  case neg =>
    rw [decide_eq_false hE, Bool.not_false, r_condT, bd58_0, rsP_bad hE]
    refine st58 h84 fun w5 c5 s5 h5 => ?_
    rw [pace_box h5]
    exact ⟨Kp.of_chg k04 c5 fun q e => by omega, rfl⟩
  obtain ⟨N, S, T, rfl, rfl, rfl, hN, hS, hT, hST, hpos, hP⟩ := rs_ok hE
  have tT : thT N L S T = (trees N (L.map natW) : Nat) := by unfold thT; rw [if_pos hE]; rfl
  have tV : thV N L S T = (volt N (L.map natW) S T : Nat) := by unfold thV; rw [if_pos hE]; rfl
  rw [tT, tV] at h4
  have b1 : w4.cell? ⟨b10, 1, none⟩ = some (.int .i64 (trees N (L.map natW) : Nat)) := by rw [cell_row h4]; rfl
  have b2 : w4.cell? ⟨b10, 2, none⟩ = some (.int .i64 (volt N (L.map natW) S T : Nat)) := by rw [cell_row h4]; rfl
  have sT := trees_small (n := N) hN.few
  have sV := volt_small (n := N) (s := S) (t := T) hN.few
  rw [decide_eq_true hE, Bool.not_true, r_condF, r_fa, Nat.zero_add, r_ld b2, r_fa, Nat.zero_add, r_ld b1, hP, hE]
  refine r_use fok63 (lowest_calls w4 hpos (by omega) (by omega)) rfl ?_
  rintro _ w5 ⟨rfl, k5⟩
  refine ⟨_, rfl, ?_⟩
  refine st58 (block_below h84 k5) fun w6 c6 s6 h6 => ?_
  rw [pace_box h6]
  exact ⟨Kp.of_chg (Kp.trans k04 k5) c6 fun q e => by omega, rfl⟩

/-! ### Chance -/
theorem bit_sum {T : Nat → Bool} {i : Nat} : ∀ k : Nat, (((List.range k).filter T).map fun m => m / 2 ^ i % 2).sum = cF (fun m => T m && decide (m / 2 ^ i % 2 ≠ 0)) k
  | 0 => rfl
  | k + 1 => by
    rw [List.range_succ, List.filter_append, List.map_append, List.sum_append, bit_sum k, cF_succ]
    cases hT : T k
    · simp [hT]
    · by_cases h : k / 2 ^ i % 2 = 0
      · simp [hT, h]
      · have : k / 2 ^ i % 2 = 1 := by omega
        simp [hT, this]
open Classical in
theorem bit_cnt {n i : Nat} {l : List Wr} (hl : Wf n l) (hi : i < l.length) : ((forL n l).map fun m => m / 2 ^ i % 2).sum = volt n l l[i].1 l[i].2 := by
  unfold forL forU
  rw [bit_sum]
  obtain ⟨R, hR⟩ : ∃ R : List Wr → Prop, R = fun q => RF n (Dt.one 0) (l[i] :: q) := ⟨_, rfl⟩
  have hRq : ∀ q, R q ↔ RF n (Dt.one 0) (l[i] :: q) := fun q => by rw [hR]
  have e1 : cF (fun m => treeB n l m && decide (m / 2 ^ i % 2 ≠ 0)) (2 ^ l.length) = cF (fun m => decide (m / 2 ^ i % 2 ≠ 0) && decide (R (pickE l i m))) (2 ^ l.length) := cF_congr fun m _ => by
    by_cases hb : m / 2 ^ i % 2 ≠ 0
    · have hp := pickE_perm hi hb
      have h1 : RF n (Dt.one 0) (pick l m) ↔ R (pickE l i m) := by rw [hRq]; exact ⟨fun h => h.perm hp, fun h => h.perm hp.symm⟩
      unfold treeB
      simp [hb, h1]
    · simp [hb]
  rw [e1, pickE_cnt hi R, ← with_volt hl hi, with_at (PI_RF n _) hi, hR]
theorem take_sumN {ms : List Nat} {k : Nat} (f : Nat → Nat) (hk : k < ms.length) : ((ms.take (k + 1)).map f).sum = ((ms.take k).map f).sum + f (ms.getD k 0) := by
  rw [List.take_succ_eq_append_getElem hk, List.map_append, List.sum_append, getD_lt _ _ _ hk]; simp
theorem bits_le (i : Nat) : ∀ ms : List Nat, (ms.map fun m => m / 2 ^ i % 2).sum ≤ ms.length
  | [] => by simp
  | m :: ms => by
    have := bits_le i ms
    rw [List.map_cons, List.sum_cons, List.length_cons]
    omega

set_option maxRecDepth 100000 in
set_option maxHeartbeats 1000000 in
theorem rChance_calls {v : Value} {L : List (Int × Int)} {n i : Int} (w : World) (hr : RdW w v L) :
    Calls Tryd.prog 40 #[.int .i64 n, v, .int .i64 i] w fun e w' => Kp w w' ∧ e = .returned (.tuple #[paV (chP n L i), .int .i64 (chE n L i)]) := by
  obtain ⟨a, cap, ev, _⟩ := hr.len
  have lnv : ∀ K : Value → Prop, ln1 v K = K (.int .i64 L.length) := fun K => by rw [ev]; rfl
  refine lift40 ?_
  unfold S40
  refine r_box fun b6 w1 e6 s6 h6 k1 => ?_
  have h6' : w1.heap[b6]? = some (.cells #[.int .i64 0, .int .i64 0] 58 (0, 0)) := h6
  refine r_use fok30 (good_calls (n := n) w1 (hr.kp k1)) rfl ?_
  rintro _ w2 ⟨rfl, k2⟩
  refine ⟨_, rfl, ?_⟩
  have k02 := Kp.trans k1 k2
  have h62 := block_below h6' k2
  have sz2 := k02.size
  have empty : ∀ (w' : World) (E : Int), Kp w w' → w'.heap[b6]? = some (.cells #[.int .i64 0, .int .i64 0] 58 (0, 0)) → chE n L i = E → chP n L i = (0, 0) →
      bdQ Tryd.prog 58 [] fun t30 => stW Tryd.prog 58 (ptrV b6) t30 w' fun w_1 => ldN 2 w_1 (ptrV b6) fun r => (Kp w w_1 ∧ Ending.returned (Value.tuple #[r, .int .i64 E]) = .returned (.tuple #[paV (chP n L i), .int .i64 (chE n L i)])) := fun w' E k h hE hP => by
    rw [bd58_0, hE, hP]
    refine st58 h fun w5 c5 s5 h5 => ?_
    rw [pace_box h5]
    exact ⟨Kp.of_chg k c5 fun q e => by omega, rfl⟩
  rw [r_neq]
  by_cases h0 : netErr n L = 0
  case neg =>
    rw [decide_eq_false h0, Bool.not_false, r_condT]
    exact empty w2 _ k02 h62 (if_neg h0) (if_neg fun h => h0 h.1)
  rw [decide_eq_true h0, Bool.not_true, r_condF]
  by_cases g1 : i < 0
  · have := empty w2 6 k02 h62 (by unfold chE; rw [if_pos h0, if_pos (.inl g1)]) (if_neg fun h => h.2 (.inl g1))
    simp (disch := omega) only [r_ln, r_pick, r_pickT, r_pickF, r_condT, r_condF, r_gdTT, r_gdFF, r_gdTF, r_gdFT, r_gqTT, r_gqFF, r_gqTF, r_gqFT, r_not, r_lss, r_leq, r_gtr, r_geq, r_eql, r_neq, r_add, r_sub, r_min2, r_max2, r_min3, r_max3, r_fa, r_iaS, r_iaA, r_ex2a, r_ex2b, r_ex3a, r_ex3b, r_ex3c, r_nc, r_keepE, Nat.zero_add, Nat.add_zero, Nat.mul_one, Int.toNat_natCast, toNat_sub1, toNat_add1, decide_true, decide_false, Bool.not_true, Bool.not_false, if_true, if_false, Bool.false_eq_true, reduceCtorEq, r_gdU, decide_eq_true g1]
    exact this
  by_cases g2 : (L.length : Int) ≤ i
  · have := empty w2 6 k02 h62 (by unfold chE; rw [if_pos h0, if_pos (.inr g2)]) (if_neg fun h => h.2 (.inr g2))
    simp (disch := omega) only [r_ln, r_pick, r_pickT, r_pickF, r_condT, r_condF, r_gdTT, r_gdFF, r_gdTF, r_gdFT, r_gqTT, r_gqFF, r_gqTF, r_gqFT, r_not, r_lss, r_leq, r_gtr, r_geq, r_eql, r_neq, r_add, r_sub, r_min2, r_max2, r_min3, r_max3, r_fa, r_iaS, r_iaA, r_ex2a, r_ex2b, r_ex3a, r_ex3b, r_ex3c, r_nc, r_keepE, Nat.zero_add, Nat.add_zero, Nat.mul_one, Int.toNat_natCast, toNat_sub1, toNat_add1, decide_true, decide_false, Bool.not_true, Bool.not_false, if_true, if_false, Bool.false_eq_true, reduceCtorEq, r_gdU, g1, lnv, decide_eq_true g2]
    exact this
  obtain ⟨N, rfl, hN, hb⟩ := net_ok h0
  obtain ⟨I, rfl⟩ : ∃ I : Nat, i = I := ⟨i.toNat, by omega⟩
  have hII : (I : Int).toNat = I := by omega
  have hNN : (N : Int).toNat = N := by omega
  have hE : chE N L I = if trees N (L.map natW) = 0 then 10 else 0 := by unfold chE; rw [if_pos h0, if_neg (by omega), hNN]
  have hP : chP N L I = shP N (L.map natW) ((L.map natW).getD I (0, 0)).1 ((L.map natW).getD I (0, 0)).2 := by unfold chP; rw [if_pos ⟨h0, by omega⟩, hNN, hII]
  have htwo := hN.two
  have hfew := hN.few
  have hlm : (L.map natW).length = L.length := List.length_map ..
  have hI : I < (L.map natW).length := by omega
  simp (disch := omega) only [r_ln, r_pick, r_pickT, r_pickF, r_condT, r_condF, r_gdTT, r_gdFF, r_gdTF, r_gdFT, r_gqTT, r_gqFF, r_gqTF, r_gqFT, r_not, r_lss, r_leq, r_gtr, r_geq, r_eql, r_neq, r_add, r_sub, r_min2, r_max2, r_min3, r_max3, r_fa, r_iaS, r_iaA, r_ex2a, r_ex2b, r_ex3a, r_ex3b, r_ex3c, r_nc, r_keepE, Nat.zero_add, Nat.add_zero, Nat.mul_one, Int.toNat_natCast, toNat_sub1, toNat_add1, decide_true, decide_false, Bool.not_true, Bool.not_false, if_true, if_false, Bool.false_eq_true, reduceCtorEq, r_gdU, g1, g2, lnv]
  refine r_use fok59 (forests_calls (n := N) w2 hN.wf hN.few (by omega) hN.most ((RdW.nat hr hb).kp k02)) rfl ?_
  rintro _ w3 ⟨k3, t30, rfl, hF⟩
  refine ⟨_, rfl, ?_⟩
  have k03 := Kp.trans k02 k3
  have h63 := block_below h62 k3
  obtain ⟨fa, fc, ef, _⟩ := RecAt.len hF
  have lnf : ∀ K : Value → Prop, ln1 t30 K = K (.int .i64 (trees N (L.map natW) : Nat)) := fun K => by rw [ef, natI_len, forL_len]; rfl
  rw [lnf, r_eql]
  have sT := trees_small (n := N) hN.few
  by_cases hz : trees N (L.map natW) = 0
  · have hz' : ((trees N (L.map natW) : Nat) : Int) = 0 := by omega
    rw [decide_eq_true hz', r_condT]
    exact empty w3 10 k03 h63 (by rw [hE, if_pos hz]) (by rw [hP]; unfold shP; rw [if_pos hz])
  have hz' : ¬ ((trees N (L.map natW) : Nat) : Int) = 0 := by omega
  rw [decide_eq_false hz', r_condF]
  rw [if_neg hz] at hE
  have hfl := forL_len N (L.map natW)
  unfold S40L0
  refine ⟨fun t10 t11 wr => ∃ k : Nat, k ≤ (forL N (L.map natW)).length ∧ t11 = .int .i64 k ∧ t10 = .int .i64 ((((forL N (L.map natW)).take k).map fun m => m / 2 ^ I % 2).sum : Nat) ∧ Kp w3 wr, fun _ t11 _ => (forL N (L.map natW)).length - (intOf t11).toNat, ⟨0, by omega, rfl, rfl, Kp.refl _⟩, ?_⟩
  rintro _ _ _ wr ⟨k, hk, rfl, rfl, kr⟩
  rw [lnf]
  by_cases hlt : k < (forL N (L.map natW)).length
  case neg =>
    have hlt' : ¬ (k : Int) < ((trees N (L.map natW) : Nat) : Int) := by omega
    rw [r_lss, decide_eq_false hlt', r_condF, lnf, List.take_of_length_le (by omega), bit_cnt hN.wf hI]
    have sV := volt_small (n := N) (s := (L.map natW)[I].1) (t := (L.map natW)[I].2) hN.few
    refine r_use fok63 (lowest_calls wr (by omega) (by omega) (by omega)) rfl ?_
    rintro _ w5 ⟨rfl, k5⟩
    refine ⟨_, rfl, ?_⟩
    refine st58 (block_below h63 (Kp.trans kr k5)) fun w6 c6 s6 h6 => ?_
    rw [pace_box h6]
    refine ⟨Kp.of_chg (Kp.trans k03 (Kp.trans kr k5)) c6 fun q e => by omega, ?_⟩
    rw [hE, hP, getD_lt _ _ _ hI]
    unfold shP
    rw [if_neg hz]
  have hlt' : (k : Int) < ((trees N (L.map natW) : Nat) : Int) := by omega
  rw [r_lss, decide_eq_true hlt', r_condT]
  obtain ⟨h, _, arl⟩ := IntsAt.ar (RecAt.kp hF kr) (by rw [natI_len]; omega)
  obtain ⟨iL, cL, _, _⟩ := arl k (by rw [natI_len]; exact hlt)
  rw [natI_get hlt] at cL
  have q1 : ∀ (x : Nat) (KK : Value → Prop), binQ Tryd.prog wr .rem 3 true (.int .i64 (x : Nat)) (.int .i64 2) KK = KK (.int .i64 ((x % 2 : Nat) : Int)) := fun x KK => r_remN x 2 (by omega)
  have hbl := bits_le I ((forL N (L.map natW)).take k)
  rw [List.length_take] at hbl
  rw [iL, r_ld cL, r_shrN _ I (by omega), q1, r_add _ _ (by omega) (by omega), r_add _ _ (by omega) (by omega)]
  refine ⟨⟨k + 1, by omega, by go_num, ?_, kr⟩, by simp only [intOf]; omega⟩
  rw [take_sumN (fun m => m / 2 ^ I % 2) hlt]
  go_num

end Go.Proofs.YtkdcldbedbagjaaDoor

/- SquareRatios. -/
namespace Go.Proofs.YtkdcldbedbagjaaDoor
open Go.Lf Go.RowKit Go.Dt

set_option maxRecDepth 100000 in
set_option maxHeartbeats 2000000 in
theorem law_ratios {v : Value} {L : List (Int × Int)} (n s t i : Int) (W0 : World) (hw : Wh W0) (hr : RdW W0 v L) : Calls Tryd.prog 11 #[.int .i64 n, v, .int .i64 s, .int .i64 t, .int .i64 i] W0 fun e w' => e = .returned (.bool true) ∧ Kp W0 w' := by
  refine lift11 ?_
  unfold S11
  refine r_use fok21 (few_calls W0 hr) rfl ?_
  rintro _ _ ⟨rfl, rfl⟩
  refine ⟨_, rfl, ?_⟩
  by_cases h40 : L.length ≤ 40
  case neg =>
    simp (disch := omega) only [r_ln, r_pick, r_pickT, r_pickF, r_condT, r_condF, r_gdTT, r_gdFF, r_gdTF, r_gdFT, r_gqTT, r_gqFF, r_gqTF, r_gqFT, r_not, r_lss, r_leq, r_gtr, r_geq, r_eql, r_neq, r_add, r_sub, r_min2, r_max2, r_min3, r_max3, r_fa, r_iaS, r_iaA, r_ex2a, r_ex2b, r_ex3a, r_ex3b, r_ex3c, r_nc, r_keepE, Nat.zero_add, Nat.add_zero, Nat.mul_one, Int.toNat_natCast, toNat_sub1, toNat_add1, decide_true, decide_false, Bool.not_true, Bool.not_false, if_true, if_false, Bool.false_eq_true, reduceCtorEq, h40]
    refine r_use fok14 (alive_calls W0 hw) rfl ?_
    rintro _ w4 ⟨rfl, k4⟩
    exact ⟨_, rfl, rfl, k4⟩
  simp (disch := omega) only [r_ln, r_pick, r_pickT, r_pickF, r_condT, r_condF, r_gdTT, r_gdFF, r_gdTF, r_gdFT, r_gqTT, r_gqFF, r_gqTF, r_gqFT, r_not, r_lss, r_leq, r_gtr, r_geq, r_eql, r_neq, r_add, r_sub, r_min2, r_max2, r_min3, r_max3, r_fa, r_iaS, r_iaA, r_ex2a, r_ex2b, r_ex3a, r_ex3b, r_ex3c, r_nc, r_keepE, Nat.zero_add, Nat.add_zero, Nat.mul_one, Int.toNat_natCast, toNat_sub1, toNat_add1, decide_true, decide_false, Bool.not_true, Bool.not_false, if_true, if_false, Bool.false_eq_true, reduceCtorEq, h40]
  refine r_use fok36 (Resist_calls (n := n) (s := s) (t := t) W0 hw hr) rfl ?_
  rintro _ w1 ⟨k1, rfl⟩
  refine ⟨_, rfl, ?_⟩
  rw [r_ex2a, r_ex2b]
  refine r_box fun b11 w2 e11 s11 h11 k2 => ?_
  have h11' : w2.heap[b11]? = some (.cells #[.int .i64 0, .int .i64 0] 58 (0, 0)) := h11
  have sz1 := k1.size
  refine st58 h11' fun w3 c3 s3 h113 => ?_
  have k13 : Kp w1 w3 := Kp.of_chg k2 c3 fun q e => by omega
  have k03 := Kp.trans k1 k13
  refine r_use fok38 (rResist_calls (n := n) (s := s) (t := t) w3 (hr.kp k03)) rfl ?_
  rintro _ w4 ⟨k4, rfl⟩
  refine ⟨_, rfl, ?_⟩
  rw [r_ex2a, r_ex2b]
  have k04 := Kp.trans k03 k4
  refine r_box fun b13 w5 e13 s13 h13 k5 => ?_
  have h13' : w5.heap[b13]? = some (.cells #[.int .i64 0, .int .i64 0] 58 (0, 0)) := h13
  have sz4 := k4.size
  have sz3 := k03.size
  have l11 : b11 < w3.heap.size := block_lt h113
  refine st58 h13' fun w6 c6 s6 h136 => ?_
  have k46 : Kp w4 w6 := Kp.of_chg k5 c6 fun q e => by omega
  have k06 := Kp.trans k04 k46
  have h116 := block_below h113 (Kp.trans k4 k46)
  have hself : ∀ q : Int, decide (q = q) = true := fun q => decide_eq_true rfl
  have hne : ∀ (w : World) (q : Int × Int) (K : Value → Prop), binQ Tryd.prog w .neq 58 false (wV q.1 q.2) (wV q.1 q.2) K = K (.bool false) := fun w q K => (r_ne58 q q K).trans (by simp)
  have heq : ∀ (w : World) (q : Int × Int) (K : Value → Prop), binQ Tryd.prog w .eql 58 false (wV q.1 q.2) (wV q.1 q.2) K = K (.bool true) := fun w q K => (r_eq58 q q K).trans (by simp)
  rw [pace_box h116, pace_box h136, hne]
  simp only [r_gdFF, r_neq, hself, decide_true, Bool.not_true, r_pickF, r_condF]
  refine r_use fok39 (Chance_calls (n := n) (i := i) w6 (hw.kp k06) (hr.kp k06)) rfl ?_
  rintro _ w7 ⟨k7, rfl⟩
  refine ⟨_, rfl, ?_⟩
  rw [r_ex2a, r_ex2b]
  refine st58 (block_below h116 k7) fun w8 c8 s8 h118 => ?_
  have k08 : Kp W0 w8 := Kp.of_chg (Kp.trans k06 k7) c8 fun q e => by omega
  have h138 : w8.heap[b13]? = _ := c8.at (block_below h136 k7) (by omega)
  refine r_use fok40 (rChance_calls (n := n) (i := i) w8 (hr.kp k08)) rfl ?_
  rintro _ w9 ⟨k9, rfl⟩
  refine ⟨_, rfl, ?_⟩
  rw [r_ex2a, r_ex2b]
  refine st58 (block_below h138 k9) fun w10 c10 s10 h1310 => ?_
  have k010 : Kp W0 w10 := Kp.of_chg (Kp.trans k08 k9) c10 fun q e => by omega
  have h1110 : w10.heap[b11]? = _ := c10.at (block_below h118 k9) (by omega)
  rw [pace_box h1110, pace_box h1310, heq]
  simp only [r_gdTT, r_eql, hself, decide_true, r_pickT]
  refine r_use fok14 (alive_calls w10 (hw.kp k010)) rfl ?_
  rintro _ w11 ⟨rfl, k11⟩
  refine ⟨_, rfl, ?_⟩
  exact ⟨by first | rfl | trivial, Kp.trans k010 k11⟩

end Go.Proofs.YtkdcldbedbagjaaDoor

/- SquareFlows. -/
namespace Go.Proofs.YtkdcldbedbagjaaDoor
open Go.Lf Go.RowKit Go.Dt

set_option maxRecDepth 100000 in
theorem bs27_e (w : World) (K : Value → World → Prop) : bsW Tryd.prog 27 0 [] w K = K (.slice (some ⟨w.heap.size, 0, none⟩) 0 0) (w.alloc (.cells #[] 40)) := by kernel_rfl
theorem rec_empty {α : Type} {e : TypeId} {m : Nat} {enc : α → List Value} (he : ∀ x, (enc x).length = m) (w : World) : RecAt e m enc w.heap.size (w.alloc (.cells #[] e)) (.slice (some ⟨w.heap.size, 0, none⟩) 0 0) [] :=
  rec_alloc he [] (by simp) w

set_option maxRecDepth 100000 in
set_option maxHeartbeats 2000000 in
theorem law_flows {v : Value} {L : List (Int × Int)} (n s t : Int) (W0 : World) (hw : Wh W0) (hr : RdW W0 v L) : Calls Tryd.prog 6 #[.int .i64 n, v, .int .i64 s, .int .i64 t] W0 fun e w' => e = .returned (.bool true) ∧ Kp W0 w' := by
  refine lift6 ?_
  unfold S6
  refine r_use fok21 (few_calls W0 hr) rfl ?_
  rintro _ _ ⟨rfl, rfl⟩
  refine ⟨_, rfl, ?_⟩
  by_cases h40 : L.length ≤ 40
  case neg =>
    simp (disch := omega) only [r_ln, r_pick, r_pickT, r_pickF, r_condT, r_condF, r_gdTT, r_gdFF, r_gdTF, r_gdFT, r_gqTT, r_gqFF, r_gqTF, r_gqFT, r_not, r_lss, r_leq, r_gtr, r_geq, r_eql, r_neq, r_add, r_sub, r_min2, r_max2, r_min3, r_max3, r_fa, r_iaS, r_iaA, r_ex2a, r_ex2b, r_ex3a, r_ex3b, r_ex3c, r_nc, r_keepE, Nat.zero_add, Nat.add_zero, Nat.mul_one, Int.toNat_natCast, toNat_sub1, toNat_add1, decide_true, decide_false, Bool.not_true, Bool.not_false, if_true, if_false, Bool.false_eq_true, reduceCtorEq, h40]
    refine r_use fok14 (alive_calls W0 hw) rfl ?_
    rintro _ w4 ⟨rfl, k4⟩
    exact ⟨_, rfl, rfl, k4⟩
  simp (disch := omega) only [r_ln, r_pick, r_pickT, r_pickF, r_condT, r_condF, r_gdTT, r_gdFF, r_gdTF, r_gdFT, r_gqTT, r_gqFF, r_gqTF, r_gqFT, r_not, r_lss, r_leq, r_gtr, r_geq, r_eql, r_neq, r_add, r_sub, r_min2, r_max2, r_min3, r_max3, r_fa, r_iaS, r_iaA, r_ex2a, r_ex2b, r_ex3a, r_ex3b, r_ex3c, r_nc, r_keepE, Nat.zero_add, Nat.add_zero, Nat.mul_one, Int.toNat_natCast, toNat_sub1, toNat_add1, decide_true, decide_false, Bool.not_true, Bool.not_false, if_true, if_false, Bool.false_eq_true, reduceCtorEq, h40]
  rw [bs27_e]
  have kA : Kp W0 (W0.alloc (.cells #[] 40)) := below_alloc _
  have hE0 := rec_empty (e := 40) wC_len W0
  have szA := kA.size
  generalize W0.alloc (.cells #[] 40) = wA at *
  refine r_apRec slt27 wC_len wC_one (by omega) hE0 (hr.kp kA) (by simp; omega) szA fun u w1 hO c1 _ => ?_
  have k1 : Kp W0 w1 := Kp.of_chg kA c1 fun q hq => (hE0.lt hq).1
  rw [List.nil_append] at hO
  have hru : RdW w1 u L := hO.rd wC_len
  have hself : ∀ q : Int, decide (q = q) = true := fun q => decide_eq_true rfl
  have hlen : L.length ≤ 1000000 := by omega
  refine r_use fok24 (Trees_calls (n := n) w1 (hw.kp k1) hru) rfl ?_
  rintro _ w2 ⟨k2, rfl⟩
  refine ⟨_, rfl, ?_⟩
  have k02 := Kp.trans k1 k2
  rw [r_ex2a, r_ex2b]
  refine r_use fok25 (rTrees_calls (n := n) w2 (hr.kp k02)) rfl ?_
  rintro _ w3 ⟨k3, rfl⟩
  refine ⟨_, rfl, ?_⟩
  have k03 := Kp.trans k02 k3
  rw [r_ex2a, r_ex2b]
  simp only [r_gdFF, r_neq, hself, decide_true, Bool.not_true, r_pickF, r_condF]
  have hru3 := hru.kp (Kp.trans k2 k3)
  refine r_use fok26 (Merged_calls (n := n) (s := s) (t := t) w3 (hw.kp k03) hru3) rfl ?_
  rintro _ w4 ⟨k4, rfl⟩
  refine ⟨_, rfl, ?_⟩
  have k04 := Kp.trans k03 k4
  rw [r_ex2a, r_ex2b]
  refine r_use fok27 (rMerged_calls (n := n) (s := s) (t := t) w4 (hr.kp k04)) rfl ?_
  rintro _ w5 ⟨k5, rfl⟩
  refine ⟨_, rfl, ?_⟩
  have k05 := Kp.trans k04 k5
  rw [r_ex2a, r_ex2b]
  simp only [r_gdFF, r_neq, hself, decide_true, Bool.not_true, r_pickF, r_condF]
  have hru5 := hru3.kp (Kp.trans k4 k5)
  refine r_use fok22 (Through_calls (n := n) (s := s) (t := t) w5 (hw.kp k05) hru5) rfl ?_
  rintro _ w6 ⟨k6, cv, rfl, hC⟩
  refine ⟨_, rfl, ?_⟩
  have k06 := Kp.trans k05 k6
  rw [r_ex2a, r_ex2b]
  obtain ⟨ca, cc, ecv, _⟩ := RecAt.len hC
  refine r_box fun b14 w7 e14 s14 h14 k7 => ?_
  have h14' : w7.heap[b14]? = some (.cells #[.slice none 0 0, .int .i64 0, .int .i64 0] 36 (0, 0)) := h14
  have sz6 := k06.size
  rw [ecv]
  refine st36 h14' fun w8 c8 s8 h148 => ?_
  rw [← ecv] at h148
  have k68 : Kp w6 w8 := Kp.of_chg k7 c8 fun q e => by omega
  have k08 := Kp.trans k06 k68
  refine r_use fok28 (rThrough_calls (n := n) (s := s) (t := t) w8 (hr.kp k08)) rfl ?_
  rintro _ w9 ⟨k9, cv2, rfl, hC2⟩
  refine ⟨_, rfl, ?_⟩
  have k09 := Kp.trans k08 k9
  rw [r_ex2a, r_ex2b]
  obtain ⟨ca2, cc2, ecv2, _⟩ := RecAt.len hC2
  refine r_box fun b15 w10 e15 s15 h15 k10 => ?_
  have h15' : w10.heap[b15]? = some (.cells #[.slice none 0 0, .int .i64 0, .int .i64 0] 36 (0, 0)) := h15
  have sz9 := k09.size
  have sz8 := k9.size
  rw [ecv2]
  refine st36 h15' fun w11 c11 s11 h1511 => ?_
  rw [← ecv2] at h1511
  have k911 : Kp w9 w11 := Kp.of_chg k10 c11 fun q e => by omega
  have k011 := Kp.trans k09 k911
  have h1411 := block_below h148 (Kp.trans k9 k911)
  have p0 : w11.cell? ⟨b14, 0, none⟩ = some cv := by rw [cell_row h1411]; rfl
  have q0 : w11.cell? ⟨b15, 0, none⟩ = some cv2 := by rw [cell_row h1511]; rfl
  have fl : (thC n L s t).length ≤ 1000000 := by
    unfold thC
    split
    · simp [flowC]; omega
    · simp
  have rC : RdInts w11 cv (thC n L s t) := Rd.ints ((RecAt.kp hC (Kp.trans k68 (Kp.trans k9 k911))).rd iC_len) fl
  have rC2 : RdInts w11 cv2 (thC n L s t) := Rd.ints ((RecAt.kp hC2 k911).rd iC_len) fl
  rw [r_fa, Nat.zero_add, r_ld p0, r_fa, Nat.zero_add, r_ld q0]
  refine r_use fok29 (same_calls w11 rC rC2) rfl ?_
  rintro _ w12 ⟨rfl, k12⟩
  refine ⟨_, rfl, ?_⟩
  have k012 := Kp.trans k011 k12
  have h1412 := block_below h1411 k12
  have h1512 := block_below h1511 k12
  have p1 : w12.cell? ⟨b14, 1, none⟩ = some (.int .i64 (thT n L s t)) := by rw [cell_row h1412]; rfl
  have p2 : w12.cell? ⟨b14, 2, none⟩ = some (.int .i64 (thV n L s t)) := by rw [cell_row h1412]; rfl
  have q1 : w12.cell? ⟨b15, 1, none⟩ = some (.int .i64 (thT n L s t)) := by rw [cell_row h1512]; rfl
  have q2 : w12.cell? ⟨b15, 2, none⟩ = some (.int .i64 (thV n L s t)) := by rw [cell_row h1512]; rfl
  simp only [decide_true, r_gdTT, r_fa, Nat.zero_add, r_ld p1, r_ld p2, r_ld q1, r_ld q2, r_eql, hself, r_pickT]
  have hru12 : RdW w12 u L := hru5.kp (Kp.trans k6 (Kp.trans k68 (Kp.trans k9 (Kp.trans k911 k12))))
  refine r_use fok19 (wired_calls w12 hru12 (hr.kp k012) hlen) rfl ?_
  rintro _ w13 ⟨rfl, k13⟩
  refine ⟨_, rfl, ?_⟩
  simp only [decide_true, r_pickT, r_gdTT]
  have k013 := Kp.trans k012 k13
  refine r_use fok14 (alive_calls w13 (hw.kp k013)) rfl ?_
  rintro _ w14 ⟨rfl, k14⟩
  refine ⟨_, rfl, ?_⟩
  exact ⟨by first | rfl | trivial, Kp.trans k013 k14⟩

end Go.Proofs.YtkdcldbedbagjaaDoor
