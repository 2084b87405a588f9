/- Texts of my own, merged by program: Kj Kk Kl. -/
import Derived.Test.YtkdcldbedbagjaaDoorN09
set_option linter.all false
/- Contract: Through of the program. -/
namespace Go.Proofs.YtkdcldbedbagjaaDoor
open Go.Lf Go.RowKit Go.Dt

theorem cnt_pow : ∀ (l : List Wr) (P : List Wr → Prop), cnt P l ≤ 2 ^ l.length
  | [], P => by unfold cnt; split <;> simp
  | e :: l, P => by
    unfold cnt
    have h1 := cnt_pow l P
    have h2 := cnt_pow l fun s => P (e :: s)
    rw [List.length_cons, Nat.pow_succ]
    omega
theorem cnt_small {l : List Wr} (h : l.length ≤ 16) (P : List Wr → Prop) : cnt P l ≤ 65536 :=
  Nat.le_trans (cnt_pow l P) (Nat.pow_le_pow_right (by omega) h)
theorem trees_small {n : Nat} {l : List Wr} (h : l.length ≤ 16) : trees n l ≤ 65536 := cnt_small h _
theorem volt_small {n : Nat} {l : List Wr} {s t : Nat} (h : l.length ≤ 16) : volt n l s t ≤ 65536 := cnt_small h _
theorem pot_small {n : Nat} {l : List Wr} {s t v : Nat} (h : l.length ≤ 16) : pot n l s t v ≤ 65536 := Nat.le_trans pot_le (volt_small h)

noncomputable def flowC (n : Nat) (ws : List Wr) (s t : Nat) : List Int := ws.map fun e => (pot n ws s t e.1 : Int) - pot n ws s t e.2
theorem flowC_at {n : Nat} {ws : List Wr} {s t k : Nat} (hk : k < ws.length) : (flowC n ws s t).getD k 0 = (pot n ws s t (ws.getD k (0, 0)).1 : Int) - pot n ws s t (ws.getD k (0, 0)).2 := by
  unfold flowC
  rw [List.getD_eq_getElem?_getD, List.getElem?_map, List.getElem?_eq_getElem hk, getD_lt _ _ _ hk]; rfl

/-- Through's error, total, voltage and currents. -/
noncomputable def thE (n : Int) (L : List (Int × Int)) (s t : Int) : Int := if endErr n L s t = 0 then (if trees n.toNat (L.map natW) = 0 then 10 else 0) else endErr n L s t
noncomputable def thT (n : Int) (L : List (Int × Int)) (s t : Int) : Int := if thE n L s t = 0 then trees n.toNat (L.map natW) else 0
noncomputable def thV (n : Int) (L : List (Int × Int)) (s t : Int) : Int := if thE n L s t = 0 then volt n.toNat (L.map natW) s.toNat t.toNat else 0
noncomputable def thC (n : Int) (L : List (Int × Int)) (s t : Int) : List Int := if thE n L s t = 0 then flowC n.toNat (L.map natW) s.toNat t.toNat else []

theorem flow_box {w : World} {b : Nat} {x : Value} {p q : Int} (h : w.heap[b]? = some (.cells #[x, .int .i64 p, .int .i64 q] 36 (0, 0))) (K : Value → Prop) : ldN 3 w (ptrV b) K = K (flV x p q) := r_ldRow h rfl

theorem type_ne {w : World} {a b : Nat} {cs cs' : Array Value} {t t' : TypeId} (h : w.heap[a]? = some (.cells cs t (0, 0))) (h' : w.heap[b]? = some (.cells cs' t' (0, 0))) (hne : t ≠ t') : a ≠ b := by
  rintro rfl
  rw [h] at h'
  injection h' with h'
  injection h' with _ h' _
  exact hne h'

set_option maxRecDepth 100000 in
set_option maxHeartbeats 2000000 in
/-- The currents. -/
theorem r22_1 {n s t b8 b12 b41 : Nat} {ws : List Wr} {t1 t41 : Value} {H : List Int} {w0 w1 : World} {p q : Int} {R : Ending → World → Prop} (hN : NetOk n ws) (hwv : Rd 2 wN w0 t1 ws) (h41 : IntsAt b41 w1 t41 H) (hHl : H.length = n) (hH : ∀ v, v < n → H.getD v 0 = pot n ws s t v)
    (h8 : w1.heap[b8]? = some (.cells #[nilS, .int .i64 0, .int .i64 0] 36 (0, 0))) (h12 : w1.heap[b12]? = some (.cells #[nilS, .int .i64 p, .int .i64 q] 36 (0, 0))) (h812 : b8 ≠ b12) (h08 : w0.heap.size ≤ b8) (h012 : w0.heap.size ≤ b12) (k01 : Kp w0 w1)
    (hR : ∀ cv w', Kp w0 w' → IntsAt w0.heap.size w' cv (flowC n ws s t) → R (.returned (.tuple #[flV cv p q, .int .i64 0])) w') : S22L1 t1 (ptrV b8) (ptrV b12) t41 (.int .i64 ws.length) R w1 := by
  have hfew := hN.few
  have hmost := hN.most
  unfold S22L1
  refine ⟨fun t57 wr => ∃ (k : Nat) (cv : Value), k ≤ ws.length ∧ t57 = .int .i64 k ∧ IntsAt w1.heap.size wr cv ((flowC n ws s t).take k) ∧ wr.heap[b12]? = some (.cells #[cv, .int .i64 p, .int .i64 q] 36 (0, 0)) ∧ wr.heap[b8]? = some (.cells #[nilS, .int .i64 0, .int .i64 0] 36 (0, 0)) ∧ IntsAt b41 wr t41 H ∧ Kp w0 wr ∧ w1.heap.size ≤ wr.heap.size, fun t57 _ => ws.length - (intOf t57).toNat,
    ⟨0, nilS, by omega, rfl, RecAt.nil, h12, h8, h41, k01, Nat.le_refl _⟩, ?_⟩
  rintro _ _ wr ⟨k, cv, hk, rfl, hC, g12, g8, g41, kr, hszr⟩
  have hfl : (flowC n ws s t).length = ws.length := by simp [flowC]
  have hsz0 := kr.size
  have hsz1 := k01.size
  obtain ⟨ca, cc, ecv, _⟩ := hC.len
  by_cases hlt : k < ws.length
  case neg =>
    have hlt' : ¬ (k : Int) < (ws.length : Int) := by omega
    rw [List.take_of_length_le (by omega)] at hC
    simp only [r_lss, hlt', decide_false, r_condF]
    rw [flow_box g12, ecv]
    refine st36 g8 fun w2 c2 s2 h2 => ?_
    rw [flow_box h2, ← ecv]
    refine hR cv w2 (Kp.of_chg kr c2 fun q e => by omega) ((hC.chg c2 fun k hk e => ?_).down hsz1)
    obtain ⟨cur, hcur⟩ := own_type hC hk
    exact type_ne hcur g8 (by decide) e
  have hlt' : (k : Int) < (ws.length : Int) := by omega
  simp only [r_lss, decide_eq_true hlt', r_condT]
  obtain ⟨hA, hB, hne⟩ := hN.wf _ (getD_mem (d := (0, 0)) hlt)
  have hcur := flowC_at (n := n) (s := s) (t := t) hlt
  rw [wire_at (hwv.kp kr) hlt]
  generalize ws.getD k (0, 0) = e at *
  obtain ⟨A, B⟩ := e
  dsimp only at hA hB hne hcur
  refine r_box fun b16 w2 e16 s16 h16 k2 => ?_
  have h16' : w2.heap[b16]? = some (.cells #[.int .i64 0, .int .i64 0] 40 (0, 0)) := h16
  refine st40 h16' fun w3 c3 s3 h163 => ?_
  have k3 : Kp wr w3 := Kp.of_chg k2 c3 fun q e => by omega
  refine r_drew fun w4 k4 _ => ?_
  have k34 := Kp.trans k3 k4
  have h164 := block_below h163 k4
  have g124 := block_below g12 k34
  have g84 := block_below g8 k34
  have c12 : w4.cell? ⟨b12, 0 + 0, none⟩ = some cv := by rw [cell_row g124]; rfl
  have cA : w4.cell? ⟨b16, 0 + 0, none⟩ = some (.int .i64 A) := by rw [cell_row h164]; rfl
  have cB : w4.cell? ⟨b16, 0 + 1, none⟩ = some (.int .i64 B) := by rw [cell_row h164]; rfl
  have g414 := g41.kp k34
  have s1 := pot_small (n := n) (s := s) (t := t) (v := A) hfew
  have s2 := pot_small (n := n) (s := s) (t := t) (v := B) hfew
  rw [r_fa, r_ld c12, r_fa, r_ld cA, own_ldK g414 (by omega), r_fa, r_ld cB, own_ldK g414 (by omega), hH A hA, hH B hB, r_sub _ _ (by omega) (by omega), ← hcur]
  have hC4 := hC.kp k34
  have hsz4 := k34.size
  have push := r_pushRec (x := (flowC n ws s t).getD k 0) (w := w4) (base := w1.heap.size) (K := fun t75 w => fa1 (ptrV b12) 0 fun t76 => stW Tryd.prog 34 t76 t75 w fun w => binQ Tryd.prog w .add 3 true (.int .i64 k) (.int .i64 1) fun t77 => (∃ (k : Nat) (cv : Value), k ≤ ws.length ∧ t77 = .int .i64 k ∧ IntsAt w1.heap.size w cv ((flowC n ws s t).take k) ∧ w.heap[b12]? = some (.cells #[cv, .int .i64 p, .int .i64 q] 36 (0, 0)) ∧ w.heap[b8]? = some (.cells #[nilS, .int .i64 0, .int .i64 0] 36 (0, 0)) ∧ IntsAt b41 w t41 H ∧ Kp w0 w ∧ w1.heap.size ≤ w.heap.size) ∧ ws.length - (intOf t77).toNat < ws.length - (intOf (.int .i64 (k : Int))).toNat)
    (ty := 34) (xv := .int .i64 ((flowC n ws s t).getD k 0)) slt34 iC_len rfl (bs34 _ _ _) (by intro u hu; simp [iC] at hu; rw [hu]; rfl) (by omega) hC4 (by rw [List.length_take]; omega) (by omega) fun v' w' o1 c1 o2 => by
      have hown : ∀ k, cv.ownBlock = some k → ∃ cur, w4.heap[k]? = some (.cells cur 3 (0, 0)) := fun k hk => own_type hC4 hk
      have g12' := c1.at g124 fun h => by obtain ⟨cur, hc⟩ := hown _ h; exact type_ne hc g124 (by decide) rfl
      have g8' := c1.at g84 fun h => by obtain ⟨cur, hc⟩ := hown _ h; exact type_ne hc g84 (by decide) rfl
      have c12' : w'.cell? ⟨b12, 0 + 0, none⟩ = some cv := by rw [cell_row g12']; rfl
      obtain ⟨va, vc, ev', _⟩ := o1.len
      rw [r_fa, ev', st34 c12' (frozen_row g12'), ← ev', r_add _ _ (by omega) (by omega)]
      have c2 : Chg (fun k => k = b12) w' (w'.setCell ⟨b12, 0 + 0, none⟩ v') := Chg.setCell _ _ rfl
      have k04 := Kp.trans kr k34
      have k0' : Kp w0 w' := Kp.of_chg k04 c1 fun i hi => by have := (hC4.lt hi).1; omega
      refine ⟨⟨k + 1, v', by omega, by go_num, ?_, ?_, c2.at g8' (by omega), ?_, Kp.of_chg k0' c2 fun q e => by omega, by have := c1.size; have := c2.size; omega⟩, by simp only [intOf]; omega⟩
      · rw [take_succ' _ _ (by omega), ← getD_lt _ _ 0 (by omega)]
        refine o1.chg c2 fun k hk e => ?_
        obtain ⟨cur, hc⟩ := own_type o1 hk
        exact type_ne hc g12' (by decide) e
      · rw [setCell_block g12' rfl]; rfl
      · -- the potentials stay
        refine (g414.chg c1 fun k hk e => ?_).chg c2 fun k hk e => ?_
        · have := (h41.lt hk).2; have := (hC4.lt e).1; omega
        · obtain ⟨cur, hc⟩ := own_type (g414.chg c1 fun k hk e => by have := (h41.lt hk).2; have := (hC4.lt e).1; omega) hk
          exact type_ne hc g12' (by decide) e
  rw [bs34] at push ⊢
  exact r_keep (below_alloc _) push

end Go.Proofs.YtkdcldbedbagjaaDoor

/- Contract: Through of the program, whole. -/
namespace Go.Proofs.YtkdcldbedbagjaaDoor
open Go.Lf Go.RowKit Go.Dt

set_option maxRecDepth 100000 in
set_option maxHeartbeats 2000000 in
/-- The potentials. -/
theorem r22_0 {n s t b8 b10 b12 : Nat} {ws : List Wr} {t1 : Value} {w0 w1 : World} {p q : Int} {R : Ending → World → Prop} (hw : Wh w0) (hN : NetOk n ws) (hs : s < n) (ht : t < n) (hst : s ≠ t) (hwv : Rd 2 wN w0 t1 ws)
    (h8 : w1.heap[b8]? = some (.cells #[nilS, .int .i64 0, .int .i64 0] 36 (0, 0))) (h10 : w1.heap[b10]? = some (.cells #[.int .i64 n, t1] 80 (0, 0))) (h12 : w1.heap[b12]? = some (.cells #[nilS, .int .i64 p, .int .i64 q] 36 (0, 0))) (h812 : b8 ≠ b12) (h08 : w0.heap.size ≤ b8) (h012 : w0.heap.size ≤ b12) (k01 : Kp w0 w1)
    (hR : ∀ cv w', Kp w0 w' → IntsAt w0.heap.size w' cv (flowC n ws s t) → R (.returned (.tuple #[flV cv p q, .int .i64 0])) w') :
    mkW Tryd.prog 34 (.int .i64 n) (.int .i64 n) w1 fun t41 w => S22L0 (.int .i64 n) t1 (.int .i64 s) (.int .i64 t) (ptrV b8) (ptrV b10) (ptrV b12) t41 R w := by
  have hmost := hN.most
  obtain ⟨wa, wc, ewv, _⟩ := hwv.len
  have lnw : ∀ K : Value → Prop, ln1 t1 K = K (.int .i64 ws.length) := fun K => by rw [ewv]; rfl
  refine mk34' (by omega) fun t41 w2 o2 k2 _ => ?_
  unfold S22L0
  refine ⟨fun t43 wr => ∃ (v : Nat) (H : List Int), v ≤ n ∧ t43 = .int .i64 v ∧ IntsAt w1.heap.size wr t41 H ∧ H.length = n ∧ (∀ u, u < v → H.getD u 0 = pot n ws s t u) ∧ Kp w1 wr, fun t43 _ => n - (intOf t43).toNat,
    ⟨0, _, by omega, rfl, o2, by simp, fun u hu => by omega, k2⟩, ?_⟩
  rintro _ _ wr ⟨v, H, hv, rfl, hI, hHl, hH, kr⟩
  have h8r := block_below h8 kr
  have h10r := block_below h10 kr
  have h12r := block_below h12 kr
  have k0r := Kp.trans k01 kr
  by_cases hlt : v < n
  case neg =>
    have hlt' : ¬ (v : Int) < (n : Int) := by omega
    obtain rfl : v = n := by omega
    simp only [r_lss, hlt', decide_false, r_condF]
    rw [lnw]
    exact r22_1 hN hwv hI hHl hH h8r h12r h812 h08 h012 k0r hR
  have hlt' : (v : Int) < (n : Int) := by omega
  simp only [r_lss, decide_eq_true hlt', r_condT]
  rw [net_box h10r]
  refine r_use fok57 (pot_calls wr (hw.kp k0r) hN (hwv.kp k0r) hs ht hlt hst) rfl ?_
  rintro _ w3 ⟨rfl, k3⟩
  refine ⟨_, rfl, ?_⟩
  obtain ⟨g, cap, ev, hbg, gc, gf, gset⟩ := IntsAt.put (hI.kp k3) (q := v) (by omega) (pot n ws s t v : Int)
  have hvv : (v : Int).toNat = v := by omega
  have ia : ∀ K : Value → Prop, iaS 1 t41 (.int .i64 v) K = K (.pointer (some ⟨g, v, none⟩)) := fun K => by rw [ev, r_iaS _ _ _ _ _ _ _ (by omega) (by omega), hvv, Nat.mul_one, Nat.zero_add]
  rw [ia, st3 gc gf, r_add _ _ (by omega) (by omega)]
  have hch : Chg (fun k => k = g) w3 (w3.setCell ⟨g, v, none⟩ (.int .i64 (pot n ws s t v))) := Chg.setCell _ _ rfl
  refine ⟨⟨v + 1, _, by omega, by go_num, gset, by rw [List.length_set]; exact hHl, fun u hu => ?_, Kp.of_chg (Kp.trans kr k3) hch fun q e => by omega⟩, by simp only [intOf]; omega⟩
  by_cases e : u = v
  · subst e
    rw [List.getD_eq_getElem?_getD, List.getElem?_set_self (by omega)]; rfl
  · rw [List.getD_eq_getElem?_getD, List.getElem?_set_ne (Ne.symm e), ← List.getD_eq_getElem?_getD]
    exact hH u (by omega)

set_option maxRecDepth 100000 in
set_option maxHeartbeats 2000000 in
theorem Through_calls {v : Value} {L : List (Int × Int)} {n s t : Int} (w : World) (hw : Wh w) (hr : RdW w v L) :
    Calls Tryd.prog 22 #[.int .i64 n, v, .int .i64 s, .int .i64 t] w fun e w' => Kp w w' ∧ ∃ cv, e = .returned (.tuple #[flV cv (thT n L s t) (thV n L s t), .int .i64 (thE n L s t)]) ∧ IntsAt w.heap.size w' cv (thC n L s t) := by
  obtain ⟨a, cap, ev, _⟩ := hr.len
  refine lift22 ?_
  unfold S22
  refine r_box fun b8 w1 e8 s8 h8 k1 => ?_
  have h8' : w1.heap[b8]? = some (.cells #[nilS, .int .i64 0, .int .i64 0] 36 (0, 0)) := h8
  refine r_use fok54 (between_calls (n := n) (s := s) (t := t) w1 (hr.kp k1)) rfl ?_
  rintro _ w2 ⟨k2, rfl⟩
  refine ⟨_, rfl, ?_⟩
  have k02 := Kp.trans k1 k2
  rw [r_ex2a, r_ex2b]
  refine r_box fun b10 w3 e10 s10 h10 k3 => ?_
  have k03 := Kp.trans k02 k3
  have h10' : w3.heap[b10]? = some (.cells #[.int .i64 0, .slice none 0 0] 80 (0, 0)) := h10
  have h83 := block_below h8' (Kp.trans k2 k3)
  have hsz := k2.size
  -- nothing: the empty flow
  have empty : ∀ (w' : World) (E : Int), thE n L s t = E → E ≠ 0 → Kp w w' → w'.heap[b8]? = some (.cells #[nilS, .int .i64 0, .int .i64 0] 36 (0, 0)) →
      bdQ Tryd.prog 36 [] fun t27 => stW Tryd.prog 36 (ptrV b8) t27 w' fun w_1 => ldN 3 w_1 (ptrV b8) fun r => (Kp w w_1 ∧ ∃ cv, Ending.returned (Value.tuple #[r, .int .i64 E]) = .returned (.tuple #[flV cv (thT n L s t) (thV n L s t), .int .i64 (thE n L s t)]) ∧ IntsAt w.heap.size w_1 cv (thC n L s t)) := fun w' E hE h0 kk hb => by
    rw [bd36_0]
    refine st36 hb fun w4 c4 s4 h4 => ?_
    rw [flow_box h4]
    refine ⟨Kp.of_chg kk c4 fun q e => by omega, nilS, ?_, ?_⟩
    · unfold thT thV
      rw [hE, if_neg h0, if_neg h0]
    · unfold thC
      rw [hE, if_neg h0]
      exact RecAt.nil
  by_cases h0 : endErr n L s t = 0
  case neg =>
    have hE : thE n L s t = endErr n L s t := if_neg h0
    obtain ⟨k, a', m', c', hx⟩ : ∃ k a' m' c', (if netErr n L = 0 then netV n v else netV 0 nilS) = netV k (.slice a' m' c') := by
      split
      · exact ⟨_, _, _, _, by rw [ev]⟩
      · exact ⟨_, _, _, _, rfl⟩
    rw [hx]
    refine st80 h10' fun w4 c4 s4 h4 => ?_
    have k04 : Kp w w4 := Kp.of_chg k03 c4 fun q e => by omega
    rw [r_neq, decide_eq_false h0, Bool.not_false, r_condT]
    exact empty w4 _ hE h0 k04 (c4.at h83 (by omega))
  obtain ⟨hn0, S, T, rfl, rfl, hS, hT, hST⟩ := end_ok h0
  rw [if_pos hn0, ev]
  refine st80 h10' fun w4 c4 s4 h4 => ?_
  have k04 : Kp w w4 := Kp.of_chg k03 c4 fun q e => by omega
  have h84 := c4.at h83 (by omega)
  rw [r_neq, decide_eq_true h0, Bool.not_true, r_condF]
  obtain ⟨N, rfl, hN, hb⟩ := net_ok hn0
  have hNN : (N : Int).toNat = N := by omega
  have hSS : (S : Int).toNat = S := by omega
  have hTT : (T : Int).toNat = T := by omega
  have hE : thE N L S T = if trees N (L.map natW) = 0 then 10 else 0 := by unfold thE; rw [if_pos h0, hNN]
  rw [← ev] at h4 ⊢
  have hwv := RdW.nat hr hb
  refine r_drew fun w5 k5 _ => ?_
  have k05 := Kp.trans k04 k5
  have h85 := block_below h84 k5
  have h105 := block_below h4 k5
  have sz5 := k05.size
  have hb8 : b8 < w5.heap.size := block_lt h85
  -- behind the three orders
  refine r_join1 (fun t12 wj => ∃ b12, t12 = ptrV b12 ∧ w5.heap.size ≤ b12 ∧ Kp w5 wj ∧ wj.heap[b12]? = some (.cells #[nilS, .int .i64 (trees N (L.map natW)), .int .i64 (volt N (L.map natW) S T)] 36 (0, 0))) ?_ fun kk hkk => ?_
  · rintro _ wj ⟨b12, rfl, hb12, kj, h12⟩
    have c12 : wj.cell? ⟨b12, 0 + 1, none⟩ = some (.int .i64 (trees N (L.map natW))) := by rw [cell_row h12]; rfl
    have h8j := block_below h85 kj
    rw [r_fa, r_ld c12, r_eql]
    by_cases hz : trees N (L.map natW) = 0
    · have hz' : ((trees N (L.map natW) : Nat) : Int) = 0 := by omega
      rw [if_pos hz] at hE
      rw [decide_eq_true hz', r_condT]
      exact empty wj 10 hE (by decide) (Kp.trans k05 kj) h8j
    · have hz' : ¬ ((trees N (L.map natW) : Nat) : Int) = 0 := by omega
      rw [if_neg hz] at hE
      rw [decide_eq_false hz', r_condF]
      refine r22_0 (w0 := w) hw hN (by omega) (by omega) hST hwv h8j (block_below h105 kj) h12 (by omega) (by omega) (by omega) (Kp.trans k05 kj) fun cv w' k' o' => ⟨k', cv, ?_, ?_⟩
      · unfold thT thV
        rw [hE, if_pos rfl, if_pos rfl, hNN, hSS, hTT]
      · unfold thC
        rw [hE, if_pos rfl, hNN, hSS, hTT]
        exact o'
  · have tr : ∀ (w' : World), Kp w5 w' → Calls Tryd.prog 55 #[netV N v] w' fun e w'' => e = .returned (.int .i64 (trees N (L.map natW))) ∧ Kp w' w'' := fun w' k => trees_calls w' (hw.kp (Kp.trans k05 k)) hN (hwv.kp (Kp.trans k05 k))
    have mg : ∀ (w' : World), Kp w5 w' → Calls Tryd.prog 56 #[netV N v, .int .i64 S, .int .i64 T] w' fun e w'' => e = .returned (.int .i64 (volt N (L.map natW) S T)) ∧ Kp w' w'' := fun w' k => merged_calls w' (hw.kp (Kp.trans k05 k)) hN (hwv.kp (Kp.trans k05 k)) (by omega) (by omega) hST
    rw [net_box h105, net_box h105]
    refine ⟨?_, ?_, trivial⟩
    · refine r_use fok55 (tr w5 (Kp.refl _)) rfl ?_
      rintro _ w6 ⟨rfl, k6⟩
      refine ⟨_, rfl, r_keep k6 ⟨?_, ?_, trivial⟩⟩
      · refine r_use fok56 (mg w6 k6) rfl ?_
        rintro _ w7 ⟨rfl, k7⟩
        refine ⟨_, rfl, r_keep k7 ?_⟩
        rw [bd36]
        refine r_box fun b12 w8 e12 s12 h12 k8 => r_keep k8 ?_
        have h12' : w8.heap[b12]? = some (.cells #[nilS, .int .i64 0, .int .i64 0] 36 (0, 0)) := h12
        have k58 := Kp.trans k6 (Kp.trans k7 k8)
        have sz := (Kp.trans k6 k7).size
        exact st36 h12' fun w9 c9 s9 h9 => hkk _ _ ⟨b12, rfl, by omega, Kp.of_chg k58 c9 fun q e => by omega, h9⟩
      · refine r_box fun b12 w8 e12 s12 h12 k8 => r_keep k8 ?_
        have h12' : w8.heap[b12]? = some (.cells #[nilS, .int .i64 0, .int .i64 0] 36 (0, 0)) := h12
        refine r_use fok56 (mg w8 (Kp.trans k6 k8)) rfl ?_
        rintro _ w7 ⟨rfl, k7⟩
        refine ⟨_, rfl, r_keep k7 ?_⟩
        rw [bd36]
        have k58 := Kp.trans k6 (Kp.trans k8 k7)
        have sz := k6.size
        exact st36 (block_below h12' k7) fun w9 c9 s9 h9 => hkk _ _ ⟨b12, rfl, by omega, Kp.of_chg k58 c9 fun q e => by omega, h9⟩
    · refine r_box fun b12 w8 e12 s12 h12 k8 => r_keep k8 ?_
      have h12' : w8.heap[b12]? = some (.cells #[nilS, .int .i64 0, .int .i64 0] 36 (0, 0)) := h12
      refine r_use fok55 (tr w8 k8) rfl ?_
      rintro _ w6 ⟨rfl, k6⟩
      refine ⟨_, rfl, r_keep k6 ?_⟩
      refine r_use fok56 (mg w6 (Kp.trans k8 k6)) rfl ?_
      rintro _ w7 ⟨rfl, k7⟩
      refine ⟨_, rfl, r_keep k7 ?_⟩
      rw [bd36]
      have k58 := Kp.trans k8 (Kp.trans k6 k7)
      exact st36 (block_below h12' (Kp.trans k6 k7)) fun w9 c9 s9 h9 => hkk _ _ ⟨b12, rfl, by omega, Kp.of_chg k58 c9 fun q e => by omega, h9⟩

end Go.Proofs.YtkdcldbedbagjaaDoor

/- Contracts: pace, share, Resistance, Chance of the program. -/
namespace Go.Proofs.YtkdcldbedbagjaaDoor
open Go.Lf Go.RowKit Go.Dt

/-- A fraction in lowest terms. -/
def paceOf (a b : Nat) : Int × Int := (((a / Nat.gcd a b : Nat) : Int), ((b / Nat.gcd a b : Nat) : Int))
abbrev paV (p : Int × Int) : Value := wV p.1 p.2

theorem pace_box {w : World} {b : Nat} {p q : Int} (h : w.heap[b]? = some (.cells #[.int .i64 p, .int .i64 q] 58 (0, 0))) (K : Value → Prop) : ldN 2 w (ptrV b) K = K (wV p q) := r_ldRow h rfl

set_option maxRecDepth 100000 in
theorem pace_calls {a b : Nat} (w : World) (hb : 0 < b) (ha1 : a ≤ 1000000) (hb1 : b ≤ 1000000) : Calls Tryd.prog 78 #[.int .i64 a, .int .i64 b] w fun e w' => e = .returned (paV (paceOf a b)) ∧ Kp w w' := by
  refine lift78 ?_
  unfold S78
  refine r_box fun b4 w1 e4 s4 h4 k1 => ?_
  have h4' : w1.heap[b4]? = some (.cells #[.int .i64 0, .int .i64 0] 58 (0, 0)) := h4
  unfold S78L0
  refine ⟨fun t5 t6 wr => ∃ x y : Nat, t5 = .int .i64 x ∧ t6 = .int .i64 y ∧ Nat.gcd x y = Nat.gcd a b ∧ Kp w wr ∧ wr.heap[b4]? = some (.cells #[.int .i64 0, .int .i64 0] 58 (0, 0)), fun _ t6 _ => (intOf t6).toNat, ⟨a, b, rfl, rfl, rfl, k1, h4'⟩, ?_⟩
  rintro _ _ _ wr ⟨x, y, rfl, rfl, hg, kr, h4r⟩
  have hpos : 0 < Nat.gcd a b := Nat.gcd_pos_of_pos_right _ hb
  by_cases hy : y = 0
  · subst hy
    have h0 : (((0 : Nat) : Int) = 0) := rfl
    simp only [r_neq, decide_eq_true h0, Bool.not_true, r_condF]
    rw [Nat.gcd_zero_right] at hg
    rw [hg]
    refine r_drew fun w2 k2 _ => ?_
    rw [r_quoN _ _ hpos (by omega), r_quoN _ _ hpos (by omega), bd58]
    refine st58 (block_below h4r k2) fun w3 c3 s3 h3 => ?_
    rw [pace_box h3]
    exact ⟨rfl, Kp.of_chg (Kp.trans kr k2) c3 fun q e => by omega⟩
  · have h0 : ¬ ((y : Int) = 0) := by omega
    simp only [r_neq, h0, decide_false, Bool.not_false, r_condT]
    refine r_drew fun w2 k2 _ => ?_
    rw [r_remN _ _ (by omega)]
    refine ⟨⟨y, x % y, rfl, rfl, ?_, Kp.trans kr k2, block_below h4r k2⟩, ?_⟩
    · rw [← hg, Nat.gcd_comm x y, Nat.gcd_rec y x, Nat.gcd_comm]
    · have := Nat.mod_lt x (show y > 0 by omega)
      simp only [intOf]; omega

noncomputable def shP (N : Nat) (ws : List Wr) (S T : Nat) : Int × Int := if trees N ws = 0 then (0, 0) else paceOf (volt N ws S T) (trees N ws)
set_option maxRecDepth 100000 in
theorem share_calls {N S T : Nat} {ws : List Wr} {wv : Value} (w : World) (hw : Wh w) (hN : NetOk N ws) (hwv : Rd 2 wN w wv ws) (hs : S < N) (ht : T < N) (hst : S ≠ T) :
    Calls Tryd.prog 62 #[netV N wv, .int .i64 S, .int .i64 T] w fun e w' => e = .returned (.tuple #[paV (shP N ws S T), .int .i64 (if trees N ws = 0 then 10 else 0)]) ∧ Kp w w' := by
  have hfew := hN.few
  have s1 := trees_small (n := N) hfew
  have s2 := volt_small (n := N) (s := S) (t := T) hfew
  refine lift62 ?_
  unfold S62
  refine r_box fun b3 w1 e3 s3 h3 k1 => ?_
  refine r_box fun b6 w2 e6 s6 h6 k2 => ?_
  have k02 := Kp.trans k1 k2
  have h3' : w1.heap[b3]? = some (.cells #[.int .i64 N, wv] 80 (0, 0)) := h3
  have h6' : w2.heap[b6]? = some (.cells #[.int .i64 0, .int .i64 0] 58 (0, 0)) := h6
  have h32 := block_below h3' k2
  rw [net_box h32]
  refine r_use fok55 (trees_calls w2 (hw.kp k02) hN (hwv.kp k02)) rfl ?_
  rintro _ w3 ⟨rfl, k3⟩
  refine ⟨_, rfl, ?_⟩
  have k03 := Kp.trans k02 k3
  have h33 := block_below h32 k3
  have h63 := block_below h6' k3
  have hsz := k2.size
  unfold shP
  rw [r_eql]
  by_cases hz : trees N ws = 0
  · have hz' : ((trees N ws : Nat) : Int) = 0 := by omega
    rw [decide_eq_true hz', r_condT, bd58_0, if_pos hz, if_pos hz]
    refine st58 h63 fun w4 c4 s4 h4 => ?_
    rw [pace_box h4]
    exact ⟨rfl, Kp.of_chg k03 c4 fun q e => by omega⟩
  · have hz' : ¬ ((trees N ws : Nat) : Int) = 0 := by omega
    rw [decide_eq_false hz', r_condF, if_neg hz, if_neg hz, net_box h33]
    refine r_use fok56 (merged_calls w3 (hw.kp k03) hN (hwv.kp k03) hs ht hst) rfl ?_
    rintro _ w4 ⟨rfl, k4⟩
    refine ⟨_, rfl, ?_⟩
    refine r_use fok78 (pace_calls w4 (by omega) (by omega) (by omega)) rfl ?_
    rintro _ w5 ⟨rfl, k5⟩
    refine ⟨_, rfl, ?_⟩
    refine st58 (block_below h63 (Kp.trans k4 k5)) fun w6 c6 s6 h66 => ?_
    rw [pace_box h66]
    exact ⟨rfl, Kp.of_chg (Kp.trans k03 (Kp.trans k4 k5)) c6 fun q e => by omega⟩

noncomputable def rsP (n : Int) (L : List (Int × Int)) (s t : Int) : Int × Int := if endErr n L s t = 0 then shP n.toNat (L.map natW) s.toNat t.toNat else (0, 0)
set_option maxRecDepth 100000 in
theorem Resist_calls {v : Value} {L : List (Int × Int)} {n s t : Int} (w : World) (hw : Wh w) (hr : RdW w v L) :
    Calls Tryd.prog 36 #[.int .i64 n, v, .int .i64 s, .int .i64 t] w fun e w' => Kp w w' ∧ e = .returned (.tuple #[paV (rsP n L s t), .int .i64 (thE n L s t)]) := by
  obtain ⟨a, cap, ev, _⟩ := hr.len
  refine lift36 ?_
  unfold S36
  refine r_box fun b8 w1 e8 s8 h8 k1 => ?_
  have h8' : w1.heap[b8]? = some (.cells #[.int .i64 0, .int .i64 0] 58 (0, 0)) := h8
  refine r_use fok54 (between_calls (n := n) (s := s) (t := t) w1 (hr.kp k1)) rfl ?_
  rintro _ w2 ⟨k2, rfl⟩
  refine ⟨_, rfl, ?_⟩
  have k02 := Kp.trans k1 k2
  rw [r_ex2a, r_ex2b]
  refine r_box fun b10 w3 e10 s10 h10 k3 => ?_
  have k03 := Kp.trans k02 k3
  have h10' : w3.heap[b10]? = some (.cells #[.int .i64 0, .slice none 0 0] 80 (0, 0)) := h10
  have h83 := block_below h8' (Kp.trans k2 k3)
  have hsz := k2.size
  unfold rsP
  by_cases h0 : endErr n L s t = 0
  case neg =>
    have hE : thE n L s t = endErr n L s t := if_neg h0
    obtain ⟨k, a', m', c', hx⟩ : ∃ k a' m' c', (if netErr n L = 0 then netV n v else netV 0 nilS) = netV k (.slice a' m' c') := by
      split
      · exact ⟨_, _, _, _, by rw [ev]⟩
      · exact ⟨_, _, _, _, rfl⟩
    rw [hx]
    refine st80 h10' fun w4 c4 s4 h4 => ?_
    have k04 : Kp w w4 := Kp.of_chg k03 c4 fun q e => by omega
    rw [r_neq, decide_eq_false h0, Bool.not_false, r_condT, bd58_0, if_neg h0, hE]
    refine st58 (c4.at h83 (by omega)) fun w5 c5 s5 h5 => ?_
    rw [pace_box h5]
    exact ⟨Kp.of_chg k04 c5 fun q e => by omega, rfl⟩
  obtain ⟨hn0, S, T, rfl, rfl, hS, hT, hST⟩ := end_ok h0
  rw [if_pos hn0, ev]
  refine st80 h10' fun w4 c4 s4 h4 => ?_
  have k04 : Kp w w4 := Kp.of_chg k03 c4 fun q e => by omega
  have h84 := c4.at h83 (by omega)
  rw [r_neq, decide_eq_true h0, Bool.not_true, r_condF, if_pos h0]
  obtain ⟨N, rfl, hN, hb⟩ := net_ok hn0
  have hNN : (N : Int).toNat = N := by omega
  have hE : thE N L S T = if trees N (L.map natW) = 0 then 10 else 0 := by unfold thE; rw [if_pos h0, hNN]
  rw [net_box h4, ← ev, hE]
  refine r_use fok62 (share_calls w4 (hw.kp k04) hN (RdW.nat (hr.kp k04) hb) (by omega) (by omega) hST) rfl ?_
  rintro _ w5 ⟨rfl, k5⟩
  refine ⟨_, rfl, ?_⟩
  rw [r_ex2a, r_ex2b]
  refine st58 (block_below h84 k5) fun w6 c6 s6 h6 => ?_
  rw [pace_box h6]
  exact ⟨Kp.of_chg (Kp.trans k04 k5) c6 fun q e => by omega, rfl⟩

/-- Chance's error and fraction. -/
noncomputable def chE (n : Int) (L : List (Int × Int)) (i : Int) : Int := if netErr n L = 0 then (if i < 0 ∨ (L.length : Int) ≤ i then 6 else if trees n.toNat (L.map natW) = 0 then 10 else 0) else netErr n L
noncomputable def chP (n : Int) (L : List (Int × Int)) (i : Int) : Int × Int := if netErr n L = 0 ∧ ¬ (i < 0 ∨ (L.length : Int) ≤ i) then shP n.toNat (L.map natW) ((L.map natW).getD i.toNat (0, 0)).1 ((L.map natW).getD i.toNat (0, 0)).2 else (0, 0)
set_option maxRecDepth 100000 in
set_option maxHeartbeats 1000000 in
theorem Chance_calls {v : Value} {L : List (Int × Int)} {n i : Int} (w : World) (hw : Wh w) (hr : RdW w v L) :
    Calls Tryd.prog 39 #[.int .i64 n, v, .int .i64 i] w fun e w' => Kp w w' ∧ e = .returned (.tuple #[paV (chP n L i), .int .i64 (chE n L i)]) := by
  obtain ⟨a, cap, ev, _⟩ := hr.len
  have lnv : ∀ K : Value → Prop, ln1 v K = K (.int .i64 L.length) := fun K => by rw [ev]; rfl
  refine lift39 ?_
  unfold S39
  refine r_box fun b6 w1 e6 s6 h6 k1 => ?_
  have h6' : w1.heap[b6]? = some (.cells #[.int .i64 0, .int .i64 0] 58 (0, 0)) := h6
  refine r_use fok58 (of_calls (n := n) w1 (hr.kp k1)) rfl ?_
  rintro _ w2 ⟨k2, rfl⟩
  refine ⟨_, rfl, ?_⟩
  have k02 := Kp.trans k1 k2
  rw [r_ex2a, r_ex2b]
  refine r_box fun b8 w3 e8 s8 h8 k3 => ?_
  have k03 := Kp.trans k02 k3
  have h8' : w3.heap[b8]? = some (.cells #[.int .i64 0, .slice none 0 0] 80 (0, 0)) := h8
  have h63 := block_below h6' (Kp.trans k2 k3)
  have hsz := k2.size
  have empty : ∀ (w' : World) (E : Int), Kp w w' → w'.heap[b6]? = some (.cells #[.int .i64 0, .int .i64 0] 58 (0, 0)) → chE n L i = E → chP n L i = (0, 0) →
      bdQ Tryd.prog 58 [] fun t30 => stW Tryd.prog 58 (ptrV b6) t30 w' fun w_1 => ldN 2 w_1 (ptrV b6) fun r => (Kp w w_1 ∧ Ending.returned (Value.tuple #[r, .int .i64 E]) = .returned (.tuple #[paV (chP n L i), .int .i64 (chE n L i)])) := fun w' E k h hE hP => by
    rw [bd58_0, hE, hP]
    refine st58 h fun w5 c5 s5 h5 => ?_
    rw [pace_box h5]
    exact ⟨Kp.of_chg k c5 fun q e => by omega, rfl⟩
  by_cases h0 : netErr n L = 0
  case neg =>
    rw [if_neg h0]
    refine st80 h8' fun w4 c4 s4 h4 => ?_
    have k04 : Kp w w4 := Kp.of_chg k03 c4 fun q e => by omega
    rw [r_neq, decide_eq_false h0, Bool.not_false, r_condT]
    exact empty w4 _ k04 (c4.at h63 (by omega)) (if_neg h0) (if_neg fun h => h0 h.1)
  rw [if_pos h0, ev]
  refine st80 h8' fun w4 c4 s4 h4 => ?_
  have k04 : Kp w w4 := Kp.of_chg k03 c4 fun q e => by omega
  have h64 := c4.at h63 (by omega)
  rw [r_neq, decide_eq_true h0, Bool.not_true, r_condF]
  rw [← ev] at h4 ⊢
  by_cases g1 : i < 0
  · have := empty w4 6 k04 h64 (by unfold chE; rw [if_pos h0, if_pos (.inl g1)]) (if_neg fun h => h.2 (.inl g1))
    simp (disch := omega) only [r_ln, r_pick, r_pickT, r_pickF, r_condT, r_condF, r_gdTT, r_gdFF, r_gdTF, r_gdFT, r_gqTT, r_gqFF, r_gqTF, r_gqFT, r_not, r_lss, r_leq, r_gtr, r_geq, r_eql, r_neq, r_add, r_sub, r_min2, r_max2, r_min3, r_max3, r_fa, r_iaS, r_iaA, r_ex2a, r_ex2b, r_ex3a, r_ex3b, r_ex3c, r_nc, r_keepE, Nat.zero_add, Nat.add_zero, Nat.mul_one, Int.toNat_natCast, toNat_sub1, toNat_add1, decide_true, decide_false, Bool.not_true, Bool.not_false, if_true, if_false, Bool.false_eq_true, reduceCtorEq, r_gdU, decide_eq_true g1]
    exact this
  by_cases g2 : (L.length : Int) ≤ i
  · have := empty w4 6 k04 h64 (by unfold chE; rw [if_pos h0, if_pos (.inr g2)]) (if_neg fun h => h.2 (.inr g2))
    simp (disch := omega) only [r_ln, r_pick, r_pickT, r_pickF, r_condT, r_condF, r_gdTT, r_gdFF, r_gdTF, r_gdFT, r_gqTT, r_gqFF, r_gqTF, r_gqFT, r_not, r_lss, r_leq, r_gtr, r_geq, r_eql, r_neq, r_add, r_sub, r_min2, r_max2, r_min3, r_max3, r_fa, r_iaS, r_iaA, r_ex2a, r_ex2b, r_ex3a, r_ex3b, r_ex3c, r_nc, r_keepE, Nat.zero_add, Nat.add_zero, Nat.mul_one, Int.toNat_natCast, toNat_sub1, toNat_add1, decide_true, decide_false, Bool.not_true, Bool.not_false, if_true, if_false, Bool.false_eq_true, reduceCtorEq, r_gdU, g1, lnv, decide_eq_true g2]
    exact this
  obtain ⟨N, rfl, hN, hb⟩ := net_ok h0
  obtain ⟨I, rfl⟩ : ∃ I : Nat, i = I := ⟨i.toNat, by omega⟩
  have hII : (I : Int).toNat = I := by omega
  have hNN : (N : Int).toNat = N := by omega
  have hE : chE N L I = if trees N (L.map natW) = 0 then 10 else 0 := by unfold chE; rw [if_pos h0, if_neg (by omega), hNN]
  have hP : chP N L I = shP N (L.map natW) ((L.map natW).getD I (0, 0)).1 ((L.map natW).getD I (0, 0)).2 := by unfold chP; rw [if_pos ⟨h0, by omega⟩, hNN, hII]
  rw [hE, hP]
  have hI : I < L.length := by omega
  have hmem : (L.map natW).getD I (0, 0) ∈ L.map natW := getD_mem (by rw [List.length_map]; exact hI)
  obtain ⟨hA, hB, hne⟩ := hN.wf _ hmem
  simp (disch := omega) only [r_ln, r_pick, r_pickT, r_pickF, r_condT, r_condF, r_gdTT, r_gdFF, r_gdTF, r_gdFT, r_gqTT, r_gqFF, r_gqTF, r_gqFT, r_not, r_lss, r_leq, r_gtr, r_geq, r_eql, r_neq, r_add, r_sub, r_min2, r_max2, r_min3, r_max3, r_fa, r_iaS, r_iaA, r_ex2a, r_ex2b, r_ex3a, r_ex3b, r_ex3c, r_nc, r_keepE, Nat.zero_add, Nat.add_zero, Nat.mul_one, Int.toNat_natCast, toNat_sub1, toNat_add1, decide_true, decide_false, Bool.not_true, Bool.not_false, if_true, if_false, Bool.false_eq_true, reduceCtorEq, r_gdU, g1, g2, lnv]
  refine r_drew fun w5 k5 _ => ?_
  have k05 := Kp.trans k04 k5
  have hwv := RdW.nat (hr.kp k05) hb
  obtain ⟨b, off, cap', ev', _, hc⟩ := hwv.at (List.getElem?_eq_getElem (by rw [List.length_map]; exact hI) : (L.map natW)[I]? = some _)
  have ia : ∀ K : Value → Prop, iaS 2 v (.int .i64 I) K = K (.pointer (some ⟨b, off + I * 2, none⟩)) := fun K => by
    rw [ev', r_iaS _ _ _ _ _ _ _ (by omega) (by rw [List.length_map]; omega), hII]
  rw [← getD_lt _ _ (0, 0) (by rw [List.length_map]; exact hI)] at hc
  have c0 := hc 0 _ rfl
  have c1 := hc 1 _ rfl
  rw [net_box (block_below h4 k5), ia, r_fa, r_ld c0, ia, r_fa, r_ld c1]
  refine r_use fok62 (share_calls w5 (hw.kp k05) hN hwv hA hB hne) rfl ?_
  rintro _ w6 ⟨rfl, k6⟩
  refine ⟨_, rfl, ?_⟩
  rw [r_ex2a, r_ex2b]
  refine st58 (block_below h64 (Kp.trans k5 k6)) fun w7 c7 s7 h7 => ?_
  rw [pace_box h7]
  exact ⟨Kp.of_chg (Kp.trans k05 k6) c7 fun q e => by omega, rfl⟩

end Go.Proofs.YtkdcldbedbagjaaDoor
