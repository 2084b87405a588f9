/- Contract: Through of the program, whole. -/
import Derived.Test.YtkdcldbedbagjaaDoorKj
set_option linter.all false
namespace Go.Proofs.YtkdcldbedbagjaaDoor
open Go.Lf Go.RowKit Go.Dt

set_option maxRecDepth 100000 in
set_option maxHeartbeats 2000000 in
/-- The potentials. -/
theorem r22_0 {n s t b8 b10 b12 : Nat} {ws : List Wr} {t1 : Value} {w0 w1 : World} {p q : Int} {R : Ending → World → Prop} (hw : Wh w0) (hN : NetOk n ws) (hs : s < n) (ht : t < n) (hst : s ≠ t) (hwv : Rd 2 wN w0 t1 ws)
    (h8 : w1.heap[b8]? = some (.cells #[nilS, .int .i64 0, .int .i64 0] 36 (0, 0))) (h10 : w1.heap[b10]? = some (.cells #[.int .i64 n, t1] 80 (0, 0))) (h12 : w1.heap[b12]? = some (.cells #[nilS, .int .i64 p, .int .i64 q] 36 (0, 0))) (h812 : b8 ≠ b12) (h08 : w0.heap.size ≤ b8) (h012 : w0.heap.size ≤ b12) (k01 : Kp w0 w1)
    (hR : ∀ cv w', Kp w0 w' → IntsAt w0.heap.size w' cv (flowC n ws s t) → R (.returned (.tuple #[flV cv p q, .int .i64 0])) w') :
    mkW Tryd.prog 34 (.int .i64 n) (.int .i64 n) w1 fun t41 w => S22L0 (.int .i64 n) t1 (.int .i64 s) (.int .i64 t) (ptrV b8) (ptrV b10) (ptrV b12) t41 R w := by
  have hmost := hN.most
  obtain ⟨wa, wc, ewv, _⟩ := hwv.len
  have lnw : ∀ K : Value → Prop, ln1 t1 K = K (.int .i64 ws.length) := fun K => by rw [ewv]; rfl
  refine mk34' (by omega) fun t41 w2 o2 k2 _ => ?_
  unfold S22L0
  refine ⟨fun t43 wr => ∃ (v : Nat) (H : List Int), v ≤ n ∧ t43 = .int .i64 v ∧ IntsAt w1.heap.size wr t41 H ∧ H.length = n ∧ (∀ u, u < v → H.getD u 0 = pot n ws s t u) ∧ Kp w1 wr, fun t43 _ => n - (intOf t43).toNat,
    ⟨0, _, by omega, rfl, o2, by simp, fun u hu => by omega, k2⟩, ?_⟩
  rintro _ _ wr ⟨v, H, hv, rfl, hI, hHl, hH, kr⟩
  have h8r := block_below h8 kr
  have h10r := block_below h10 kr
  have h12r := block_below h12 kr
  have k0r := Kp.trans k01 kr
  by_cases hlt : v < n
  case neg =>
    have hlt' : ¬ (v : Int) < (n : Int) := by omega
    obtain rfl : v = n := by omega
    simp only [r_lss, hlt', decide_false, r_condF]
    rw [lnw]
    exact r22_1 hN hwv hI hHl hH h8r h12r h812 h08 h012 k0r hR
  have hlt' : (v : Int) < (n : Int) := by omega
  simp only [r_lss, decide_eq_true hlt', r_condT]
  rw [net_box h10r]
  refine r_use fok57 (pot_calls wr (hw.kp k0r) hN (hwv.kp k0r) hs ht hlt hst) rfl ?_
  rintro _ w3 ⟨rfl, k3⟩
  refine ⟨_, rfl, ?_⟩
  obtain ⟨g, cap, ev, hbg, gc, gf, gset⟩ := IntsAt.put (hI.kp k3) (q := v) (by omega) (pot n ws s t v : Int)
  have hvv : (v : Int).toNat = v := by omega
  have ia : ∀ K : Value → Prop, iaS 1 t41 (.int .i64 v) K = K (.pointer (some ⟨g, v, none⟩)) := fun K => by rw [ev, r_iaS _ _ _ _ _ _ _ (by omega) (by omega), hvv, Nat.mul_one, Nat.zero_add]
  rw [ia, st3 gc gf, r_add _ _ (by omega) (by omega)]
  have hch : Chg (fun k => k = g) w3 (w3.setCell ⟨g, v, none⟩ (.int .i64 (pot n ws s t v))) := Chg.setCell _ _ rfl
  refine ⟨⟨v + 1, _, by omega, by go_num, gset, by rw [List.length_set]; exact hHl, fun u hu => ?_, Kp.of_chg (Kp.trans kr k3) hch fun q e => by omega⟩, by simp only [intOf]; omega⟩
  by_cases e : u = v
  · subst e
    rw [List.getD_eq_getElem?_getD, List.getElem?_set_self (by omega)]; rfl
  · rw [List.getD_eq_getElem?_getD, List.getElem?_set_ne (Ne.symm e), ← List.getD_eq_getElem?_getD]
    exact hH u (by omega)

set_option maxRecDepth 100000 in
set_option maxHeartbeats 2000000 in
theorem Through_calls {v : Value} {L : List (Int × Int)} {n s t : Int} (w : World) (hw : Wh w) (hr : RdW w v L) :
    Calls Tryd.prog 22 #[.int .i64 n, v, .int .i64 s, .int .i64 t] w fun e w' => Kp w w' ∧ ∃ cv, e = .returned (.tuple #[flV cv (thT n L s t) (thV n L s t), .int .i64 (thE n L s t)]) ∧ IntsAt w.heap.size w' cv (thC n L s t) := by
  obtain ⟨a, cap, ev, _⟩ := hr.len
  refine lift22 ?_
  unfold S22
  refine r_box fun b8 w1 e8 s8 h8 k1 => ?_
  have h8' : w1.heap[b8]? = some (.cells #[nilS, .int .i64 0, .int .i64 0] 36 (0, 0)) := h8
  refine r_use fok54 (between_calls (n := n) (s := s) (t := t) w1 (hr.kp k1)) rfl ?_
  rintro _ w2 ⟨k2, rfl⟩
  refine ⟨_, rfl, ?_⟩
  have k02 := Kp.trans k1 k2
  rw [r_ex2a, r_ex2b]
  refine r_box fun b10 w3 e10 s10 h10 k3 => ?_
  have k03 := Kp.trans k02 k3
  have h10' : w3.heap[b10]? = some (.cells #[.int .i64 0, .slice none 0 0] 80 (0, 0)) := h10
  have h83 := block_below h8' (Kp.trans k2 k3)
  have hsz := k2.size
  -- nothing: the empty flow
  have empty : ∀ (w' : World) (E : Int), thE n L s t = E → E ≠ 0 → Kp w w' → w'.heap[b8]? = some (.cells #[nilS, .int .i64 0, .int .i64 0] 36 (0, 0)) →
      bdQ Tryd.prog 36 [] fun t27 => stW Tryd.prog 36 (ptrV b8) t27 w' fun w_1 => ldN 3 w_1 (ptrV b8) fun r => (Kp w w_1 ∧ ∃ cv, Ending.returned (Value.tuple #[r, .int .i64 E]) = .returned (.tuple #[flV cv (thT n L s t) (thV n L s t), .int .i64 (thE n L s t)]) ∧ IntsAt w.heap.size w_1 cv (thC n L s t)) := fun w' E hE h0 kk hb => by
    rw [bd36_0]
    refine st36 hb fun w4 c4 s4 h4 => ?_
    rw [flow_box h4]
    refine ⟨Kp.of_chg kk c4 fun q e => by omega, nilS, ?_, ?_⟩
    · unfold thT thV
      rw [hE, if_neg h0, if_neg h0]
    · unfold thC
      rw [hE, if_neg h0]
      exact RecAt.nil
  by_cases h0 : endErr n L s t = 0
  case neg =>
    have hE : thE n L s t = endErr n L s t := if_neg h0
    obtain ⟨k, a', m', c', hx⟩ : ∃ k a' m' c', (if netErr n L = 0 then netV n v else netV 0 nilS) = netV k (.slice a' m' c') := by
      split
      · exact ⟨_, _, _, _, by rw [ev]⟩
      · exact ⟨_, _, _, _, rfl⟩
    rw [hx]
    refine st80 h10' fun w4 c4 s4 h4 => ?_
    have k04 : Kp w w4 := Kp.of_chg k03 c4 fun q e => by omega
    rw [r_neq, decide_eq_false h0, Bool.not_false, r_condT]
    exact empty w4 _ hE h0 k04 (c4.at h83 (by omega))
  obtain ⟨hn0, S, T, rfl, rfl, hS, hT, hST⟩ := end_ok h0
  rw [if_pos hn0, ev]
  refine st80 h10' fun w4 c4 s4 h4 => ?_
  have k04 : Kp w w4 := Kp.of_chg k03 c4 fun q e => by omega
  have h84 := c4.at h83 (by omega)
  rw [r_neq, decide_eq_true h0, Bool.not_true, r_condF]
  obtain ⟨N, rfl, hN, hb⟩ := net_ok hn0
  have hNN : (N : Int).toNat = N := by omega
  have hSS : (S : Int).toNat = S := by omega
  have hTT : (T : Int).toNat = T := by omega
  have hE : thE N L S T = if trees N (L.map natW) = 0 then 10 else 0 := by unfold thE; rw [if_pos h0, hNN]
  rw [← ev] at h4 ⊢
  have hwv := RdW.nat hr hb
  refine r_drew fun w5 k5 _ => ?_
  have k05 := Kp.trans k04 k5
  have h85 := block_below h84 k5
  have h105 := block_below h4 k5
  have sz5 := k05.size
  have hb8 : b8 < w5.heap.size := block_lt h85
  -- behind the three orders
  refine r_join1 (fun t12 wj => ∃ b12, t12 = ptrV b12 ∧ w5.heap.size ≤ b12 ∧ Kp w5 wj ∧ wj.heap[b12]? = some (.cells #[nilS, .int .i64 (trees N (L.map natW)), .int .i64 (volt N (L.map natW) S T)] 36 (0, 0))) ?_ fun kk hkk => ?_
  · rintro _ wj ⟨b12, rfl, hb12, kj, h12⟩
    have c12 : wj.cell? ⟨b12, 0 + 1, none⟩ = some (.int .i64 (trees N (L.map natW))) := by rw [cell_row h12]; rfl
    have h8j := block_below h85 kj
    rw [r_fa, r_ld c12, r_eql]
    by_cases hz : trees N (L.map natW) = 0
    · have hz' : ((trees N (L.map natW) : Nat) : Int) = 0 := by omega
      rw [if_pos hz] at hE
      rw [decide_eq_true hz', r_condT]
      exact empty wj 10 hE (by decide) (Kp.trans k05 kj) h8j
    · have hz' : ¬ ((trees N (L.map natW) : Nat) : Int) = 0 := by omega
      rw [if_neg hz] at hE
      rw [decide_eq_false hz', r_condF]
      refine r22_0 (w0 := w) hw hN (by omega) (by omega) hST hwv h8j (block_below h105 kj) h12 (by omega) (by omega) (by omega) (Kp.trans k05 kj) fun cv w' k' o' => ⟨k', cv, ?_, ?_⟩
      · unfold thT thV
        rw [hE, if_pos rfl, if_pos rfl, hNN, hSS, hTT]
      · unfold thC
        rw [hE, if_pos rfl, hNN, hSS, hTT]
        exact o'
  · have tr : ∀ (w' : World), Kp w5 w' → Calls Tryd.prog 55 #[netV N v] w' fun e w'' => e = .returned (.int .i64 (trees N (L.map natW))) ∧ Kp w' w'' := fun w' k => trees_calls w' (hw.kp (Kp.trans k05 k)) hN (hwv.kp (Kp.trans k05 k))
    have mg : ∀ (w' : World), Kp w5 w' → Calls Tryd.prog 56 #[netV N v, .int .i64 S, .int .i64 T] w' fun e w'' => e = .returned (.int .i64 (volt N (L.map natW) S T)) ∧ Kp w' w'' := fun w' k => merged_calls w' (hw.kp (Kp.trans k05 k)) hN (hwv.kp (Kp.trans k05 k)) (by omega) (by omega) hST
    rw [net_box h105, net_box h105]
    refine ⟨?_, ?_, trivial⟩
    · refine r_use fok55 (tr w5 (Kp.refl _)) rfl ?_
      rintro _ w6 ⟨rfl, k6⟩
      refine ⟨_, rfl, r_keep k6 ⟨?_, ?_, trivial⟩⟩
      · refine r_use fok56 (mg w6 k6) rfl ?_
        rintro _ w7 ⟨rfl, k7⟩
        refine ⟨_, rfl, r_keep k7 ?_⟩
        rw [bd36]
        refine r_box fun b12 w8 e12 s12 h12 k8 => r_keep k8 ?_
        have h12' : w8.heap[b12]? = some (.cells #[nilS, .int .i64 0, .int .i64 0] 36 (0, 0)) := h12
        have k58 := Kp.trans k6 (Kp.trans k7 k8)
        have sz := (Kp.trans k6 k7).size
        exact st36 h12' fun w9 c9 s9 h9 => hkk _ _ ⟨b12, rfl, by omega, Kp.of_chg k58 c9 fun q e => by omega, h9⟩
      · refine r_box fun b12 w8 e12 s12 h12 k8 => r_keep k8 ?_
        have h12' : w8.heap[b12]? = some (.cells #[nilS, .int .i64 0, .int .i64 0] 36 (0, 0)) := h12
        refine r_use fok56 (mg w8 (Kp.trans k6 k8)) rfl ?_
        rintro _ w7 ⟨rfl, k7⟩
        refine ⟨_, rfl, r_keep k7 ?_⟩
        rw [bd36]
        have k58 := Kp.trans k6 (Kp.trans k8 k7)
        have sz := k6.size
        exact st36 (block_below h12' k7) fun w9 c9 s9 h9 => hkk _ _ ⟨b12, rfl, by omega, Kp.of_chg k58 c9 fun q e => by omega, h9⟩
    · refine r_box fun b12 w8 e12 s12 h12 k8 => r_keep k8 ?_
      have h12' : w8.heap[b12]? = some (.cells #[nilS, .int .i64 0, .int .i64 0] 36 (0, 0)) := h12
      refine r_use fok55 (tr w8 k8) rfl ?_
      rintro _ w6 ⟨rfl, k6⟩
      refine ⟨_, rfl, r_keep k6 ?_⟩
      refine r_use fok56 (mg w6 (Kp.trans k8 k6)) rfl ?_
      rintro _ w7 ⟨rfl, k7⟩
      refine ⟨_, rfl, r_keep k7 ?_⟩
      rw [bd36]
      have k58 := Kp.trans k8 (Kp.trans k6 k7)
      exact st36 (block_below h12' (Kp.trans k6 k7)) fun w9 c9 s9 h9 => hkk _ _ ⟨b12, rfl, by omega, Kp.of_chg k58 c9 fun q e => by omega, h9⟩

end Go.Proofs.YtkdcldbedbagjaaDoor
