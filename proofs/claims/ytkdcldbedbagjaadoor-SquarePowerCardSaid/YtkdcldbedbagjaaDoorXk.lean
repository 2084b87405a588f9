/- SquarePower. -/
import Derived.Test.YtkdcldbedbagjaaDoorXj
import Derived.Test.YtkdcldbedbagjaaDoorKk
import Derived.Test.YtkdcldbedbagjaaDoorXl
set_option linter.all false
namespace Go.Proofs.YtkdcldbedbagjaaDoor
open Go.Lf Go.RowKit Go.Dt

theorem sum_snoc {α : Type} (f : α → Int) (l : List α) (e : α) : ((l ++ [e]).map f).sum = (l.map f).sum + f e := by
  rw [List.map_append, List.sum_append]; simp

theorem ends_at (A B x : Nat) (h : A ≠ B) : ends (A, B) x = if x = A then 1 else if x = B then -1 else 0 := by
  show (if x = A then (1 : Int) else 0) - (if x = B then 1 else 0) = _
  by_cases h1 : x = A
  · rw [if_pos h1, if_neg (by omega), if_pos h1]; rfl
  · by_cases h2 : x = B
    · rw [if_neg h1, if_pos h2, if_neg h1, if_pos h2]; rfl
    · rw [if_neg h1, if_neg h2, if_neg h1, if_neg h2]; rfl

set_option maxRecDepth 100000 in
set_option maxHeartbeats 4000000 in
theorem r4_0 {n : Nat} {p : Nat → Int} {ws : List Wr} {cl cl2 : List Int} {v cv cv2 t0 t2 t3 t79 : Value} {T V T2 V2 : Int} {b9 b11 : Nat} {wm w1 : World} {R : Ending → World → Prop} (hwf : Wf n ws) (hws : ws.length ≤ 16) (hn : n ≤ 8) (hn0 : 0 < n)
    (hcl : cl.length = ws.length) (hc : ∀ k, k < ws.length → cl.getD k 0 = p (ws.getD k (0, 0)).1 - p (ws.getD k (0, 0)).2) (hcl2 : cl2.length = ws.length) (hc2 : ∀ k, k < ws.length → cl2.getD k 0 = -(p (ws.getD k (0, 0)).1 - p (ws.getD k (0, 0)).2)) (hp : ∀ x, 0 ≤ p x ∧ p x ≤ 65536)
    (hr : Rd 2 wN wm v ws) (hcv : RdInts wm cv cl) (hcv2 : RdInts wm cv2 cl2) (h9 : wm.heap[b9]? = some (.cells #[cv, .int .i64 T, .int .i64 V] 36 (0, 0))) (h11 : wm.heap[b11]? = some (.cells #[cv2, .int .i64 T2, .int .i64 V2] 36 (0, 0)))
    (hI : IntsAt wm.heap.size w1 t79 (List.replicate n 0)) (k1 : Kp wm w1)
    (hk : ∀ w' out, IntsAt wm.heap.size w' t79 out → out.length = n → (∀ x, x < n → out.getD x 0 = (ws.map fun e => ends e x * (p e.1 - p e.2)).sum) → Kp wm w' → S4L1 t0 v t2 t3 (ptrV b9) (.int .i64 (ws.map fun e => (p e.1 - p e.2) * (p e.1 - p e.2)).sum) t79 R w') :
    S4L0 t0 v t2 t3 (ptrV b9) (ptrV b11) t79 R w1 := by
  obtain ⟨va, vc, ev, _⟩ := hr.len
  have lnv : ∀ K : Value → Prop, ln1 v K = K (.int .i64 ws.length) := fun K => by rw [ev]; rfl
  unfold S4L0
  refine ⟨fun t14 t15 wr => ∃ (i : Nat) (out : List Int), i ≤ ws.length ∧ t15 = .int .i64 i ∧ t14 = .int .i64 ((ws.take i).map fun e => (p e.1 - p e.2) * (p e.1 - p e.2)).sum ∧ IntsAt wm.heap.size wr t79 out ∧ out.length = n ∧
      (∀ x, x < n → out.getD x 0 = ((ws.take i).map fun e => ends e x * (p e.1 - p e.2)).sum ∧ (out.getD x 0).natAbs ≤ i * 65536) ∧ ((ws.take i).map fun e => (p e.1 - p e.2) * (p e.1 - p e.2)).sum.natAbs ≤ i * 4294967296 ∧ Kp wm wr,
    fun _ t15 _ => ws.length - (intOf t15).toNat, ⟨0, _, by omega, rfl, rfl, hI, by simp, fun x hx => ?_, by simp, k1⟩, ?_⟩
  · have : (List.replicate n (0 : Int)).getD x 0 = 0 := by simp [List.getD_eq_getElem?_getD, List.getElem?_replicate]; split <;> rfl
    rw [this]; simp
  rintro _ _ _ wr ⟨i, out, hi, rfl, rfl, hO, hol, hout, hpow, kr⟩
  rw [lnv]
  by_cases hlt : i < ws.length
  case neg =>
    have hlt' : ¬ (i : Int) < (ws.length : Int) := by omega
    simp only [r_lss, decide_eq_false hlt', r_condF]
    rw [List.take_of_length_le (by omega)]
    exact hk wr out hO hol (fun x hx => by have := (hout x hx).1; rwa [List.take_of_length_le (by omega)] at this) kr
  have hlt' : (i : Int) < (ws.length : Int) := by omega
  simp only [r_lss, decide_eq_true hlt', r_condT]
  have hw := hwf (ws.getD i (0, 0)) (by rw [getD_lt _ _ _ hlt]; exact List.getElem_mem hlt)
  have hci := hc i hlt
  have hci2 := hc2 i hlt
  have hts : ws.take (i + 1) = ws.take i ++ [ws.getD i (0, 0)] := by rw [List.take_succ_eq_append_getElem hlt, getD_lt _ _ _ hlt]
  have wires : ∀ w', Kp wm w' → ∃ b o, (∀ K : Value → Prop, iaS 2 v (.int .i64 i) K = K (.pointer (some ⟨b, o, none⟩))) ∧ w'.cell? ⟨b, o + 0, none⟩ = some (.int .i64 (ws.getD i (0, 0)).1) ∧ w'.cell? ⟨b, o + 1, none⟩ = some (.int .i64 (ws.getD i (0, 0)).2) := fun w' k => wire_two (hr.kp k) hlt
  generalize ws.getD i (0, 0) = e at *
  obtain ⟨A, B⟩ := e
  simp only at hw hci hci2 wires
  obtain ⟨hA, hB, hAB⟩ := hw
  have pA := hp A
  have pB := hp B
  have hE := fun x => ends_at A B x hAB
  generalize hd : p A - p B = d at *
  have dB : d.natAbs ≤ 65536 := by omega
  have dd : d * d ≤ 4294967296 ∧ 0 ≤ d * d := by
    have h1 : (d * d).natAbs ≤ 65536 * 65536 := by rw [Int.natAbs_mul]; exact Nat.mul_le_mul dB dB
    have h2 : 0 ≤ d * d := by
      rcases Int.le_total 0 d with g | g
      · exact Int.mul_nonneg g g
      · exact Int.mul_nonneg_of_nonpos_of_nonpos g g
    omega
  have cur : ∀ w' : World, Kp wm w' → ∀ K : Value → Prop, (fa1 (ptrV b9) 0 fun q => ld1 w' q fun u => iaS 1 u (.int .i64 i) fun q => ld1 w' q K) = K (.int .i64 d) := fun w' k K => by
    have bx : w'.cell? ⟨b9, 0, none⟩ = some cv := by rw [cell_row (block_below h9 k)]; rfl
    rw [r_fa, Nat.zero_add, r_ld bx, ints_ldK (hcv.below k) (by omega), hci]
  have cur2 : ∀ w' : World, Kp wm w' → ∀ K : Value → Prop, (fa1 (ptrV b11) 0 fun q => ld1 w' q fun u => iaS 1 u (.int .i64 i) fun q => ld1 w' q K) = K (.int .i64 (-d)) := fun w' k K => by
    have bx : w'.cell? ⟨b11, 0, none⟩ = some cv2 := by rw [cell_row (block_below h11 k)]; rfl
    rw [r_fa, Nat.zero_add, r_ld bx, ints_ldK (hcv2.below k) (by omega), hci2]
  have oA := hout A hA
  have oB := hout B hB
  -- the end A
  refine r_drew fun w2 k2 _ => ?_
  have k02 := Kp.trans kr k2
  obtain ⟨b, o, ia, cA, cB⟩ := wires w2 k02
  have hO2 := hO.kp k2
  obtain ⟨g, eg, ar⟩ := IntsAt.ar hO2 (by omega)
  obtain ⟨i1, c1, f1, s1⟩ := ar A (by omega)
  have lg := (RecAt.lt hO2 eg).1
  rw [ia, r_fa, r_ld cA, i1, r_ld c1, cur w2 k02, r_add _ _ (by omega) (by omega), i1, st3 c1 f1]
  have hO3 := s1 (out.getD A 0 + d)
  have ch3 : Chg (fun k => k = g) w2 (w2.setCell ⟨g, A, none⟩ (.int .i64 (out.getD A 0 + d))) := Chg.setCell _ _ rfl
  have k03 : Kp wm (w2.setCell ⟨g, A, none⟩ (.int .i64 (out.getD A 0 + d))) := Kp.of_chg k02 ch3 fun k e => by omega
  generalize w2.setCell ⟨g, A, none⟩ (.int .i64 (out.getD A 0 + d)) = w3 at hO3 k03 ⊢
  -- the end B
  refine r_drew fun w4 k4 _ => ?_
  have k04 := Kp.trans k03 k4
  obtain ⟨b', o', ia', cA', cB'⟩ := wires w4 k04
  have hO4 := RecAt.kp hO3 k4
  obtain ⟨g', eg', ar'⟩ := IntsAt.ar hO4 (by rw [List.length_set]; omega)
  obtain ⟨i1', c1', f1', s1'⟩ := ar' B (by rw [List.length_set]; omega)
  have lg' := (RecAt.lt hO4 eg').1
  have hgB : (out.set A (out.getD A 0 + d)).getD B 0 = out.getD B 0 := by
    rw [List.getD_eq_getElem?_getD, List.getElem?_set_ne hAB, ← List.getD_eq_getElem?_getD]
  rw [hgB] at c1'
  rw [ia', r_fa, r_ld cB', i1', r_ld c1', cur w4 k04, r_sub _ _ (by omega) (by omega), i1', st3 c1' f1']
  have hO5 := s1' (out.getD B 0 - d)
  have ch5 : Chg (fun k => k = g') w4 (w4.setCell ⟨g', B, none⟩ (.int .i64 (out.getD B 0 - d))) := Chg.setCell _ _ rfl
  have k05 : Kp wm (w4.setCell ⟨g', B, none⟩ (.int .i64 (out.getD B 0 - d))) := Kp.of_chg k04 ch5 fun k e => by omega
  generalize w4.setCell ⟨g', B, none⟩ (.int .i64 (out.getD B 0 - d)) = w5 at hO5 k05 ⊢
  refine r_drew fun w6 k6 _ => ?_
  have k06 := Kp.trans k05 k6
  rw [cur w6 k06, cur w6 k06, r_mul _ _ (by omega) (by omega), r_add _ _ (by omega) (by omega)]
  refine r_drew fun w7 k7 _ => ?_
  have k07 := Kp.trans k06 k7
  rw [cur2 w7 k07, cur w7 k07, r_neg _ (by omega) (by omega), r_neq, decide_eq_true rfl, Bool.not_true, r_condF, r_add _ _ (by omega) (by omega)]
  refine ⟨⟨i + 1, (out.set A (out.getD A 0 + d)).set B (out.getD B 0 - d), by omega, by go_num, ?_, RecAt.kp hO5 (Kp.trans k6 k7), by simp [hol], fun x hx => ?_, ?_, k07⟩, by simp only [intOf]; omega⟩
  · rw [hts, sum_snoc]
    simp only [hd]
  · rw [hts, sum_snoc]
    have hx1 := hout x hx
    simp only [hd, hE x]
    have val : ((out.set A (out.getD A 0 + d)).set B (out.getD B 0 - d)).getD x 0 = out.getD x 0 + (if x = A then 1 else if x = B then -1 else 0) * d := by
      by_cases h2 : x = B
      · subst h2
        rw [List.getD_eq_getElem?_getD, List.getElem?_set_self (by rw [List.length_set]; omega), if_neg (Ne.symm hAB), if_pos rfl]
        show out.getD x 0 - d = _
        omega
      · rw [List.getD_eq_getElem?_getD, List.getElem?_set_ne (Ne.symm h2)]
        by_cases h1 : x = A
        · subst h1
          rw [List.getElem?_set_self (by omega), if_pos rfl]
          show out.getD x 0 + d = _
          omega
        · rw [List.getElem?_set_ne (Ne.symm h1), ← List.getD_eq_getElem?_getD, if_neg h1, if_neg h2]
          omega
    rw [val]
    refine ⟨by rw [hx1.1], ?_⟩
    by_cases h1 : x = A
    · rw [if_pos h1]; omega
    · rw [if_neg h1]
      by_cases h2 : x = B
      · rw [if_pos h2]; omega
      · rw [if_neg h2]; omega
  · rw [hts, sum_snoc]
    simp only [hd]
    omega

set_option maxRecDepth 100000 in
set_option maxHeartbeats 4000000 in
theorem r4_1 {n s t : Nat} {ws : List Wr} {cl out : List Int} {v cv t79 : Value} {b9 : Nat} {W0 wm w1 : World} (hN : NetOk n ws) (hs : s < n) (ht : t < n) (hst : s ≠ t) (htr : trees n ws ≠ 0)
    (hcl : cl.length = ws.length) (hc : ∀ k, k < ws.length → cl.getD k 0 = (pot n ws s t (ws.getD k (0, 0)).1 : Int) - pot n ws s t (ws.getD k (0, 0)).2) (hw : Wh W0) (km : Kp W0 wm)
    (hr : Rd 2 wN wm v ws) (hcv : RdInts wm cv cl) (h9 : wm.heap[b9]? = some (.cells #[cv, .int .i64 (trees n ws : Nat), .int .i64 (volt n ws s t : Nat)] 36 (0, 0)))
    (hO : IntsAt wm.heap.size w1 t79 out) (hol : out.length = n) (hout : ∀ x, x < n → out.getD x 0 = (trees n ws : Int) * (unit s x - unit t x)) (k1 : Kp wm w1) :
    S4L1 (.int .i64 n) v (.int .i64 s) (.int .i64 t) (ptrV b9) (.int .i64 ((trees n ws : Int) * volt n ws s t)) t79 (fun e w' => e = .returned (.bool true) ∧ Kp W0 w') w1 := by
  have sT := trees_small (n := n) hN.few
  have sV := volt_small (n := n) (s := s) (t := t) hN.few
  have h8 := hN.most
  unfold S4L1
  refine ⟨fun t16 wr => ∃ x : Nat, x ≤ n ∧ t16 = .int .i64 x ∧ IntsAt wm.heap.size wr t79 out ∧ Kp wm wr, fun t16 _ => n - (intOf t16).toNat, ⟨0, by omega, rfl, hO, k1⟩, ?_⟩
  rintro _ _ wr ⟨x, hx, rfl, hO, kr⟩
  by_cases hlt : x < n
  case neg =>
    have hlt' : ¬ (x : Int) < (n : Int) := by omega
    simp only [r_lss, decide_eq_false hlt', r_condF]
    refine r_drew fun w2 k2 _ => ?_
    have k02 := Kp.trans kr k2
    have hO2 := hO.kp k2
    obtain ⟨g, eg, ar⟩ := IntsAt.ar hO2 (by omega)
    obtain ⟨iS, cS, _, _⟩ := ar s (by omega)
    obtain ⟨iT, cT, _, _⟩ := ar t (by omega)
    have vS : out.getD s 0 = (trees n ws : Int) := by rw [hout s hs]; simp [unit, hst]
    have vT : out.getD t 0 = -(trees n ws : Int) := by rw [hout t ht]; simp [unit, Ne.symm hst]
    rw [vS] at cS
    rw [vT] at cT
    have h92 := block_below h9 k02
    have b1 : w2.cell? ⟨b9, 1, none⟩ = some (.int .i64 (trees n ws : Nat)) := by rw [cell_row h92]; rfl
    have b2 : w2.cell? ⟨b9, 2, none⟩ = some (.int .i64 (volt n ws s t : Nat)) := by rw [cell_row h92]; rfl
    have hself : ∀ q : Int, decide (q = q) = true := fun q => decide_eq_true rfl
    have hm : (trees n ws : Int) * (volt n ws s t : Int) = ((trees n ws * volt n ws s t : Nat) : Int) := by simp
    have hmb : trees n ws * volt n ws s t ≤ 65536 * 65536 := Nat.mul_le_mul sT sV
    have hmul : ∀ K : Value → Prop, binQ Tryd.prog w2 .mul 3 false (.int .i64 (trees n ws : Nat)) (.int .i64 (volt n ws s t : Nat)) K = K (.int .i64 ((trees n ws : Int) * volt n ws s t)) := fun K => by
      exact (r_mulN _ _ (by omega)).trans (by rw [hm])
    have hneg : ∀ K : Value → Prop, unQ .neg (.int .i64 ((trees n ws : Nat) : Int)) K = K (.int .i64 (-((trees n ws : Nat) : Int))) := fun K => r_neg _ (by omega) (by omega)
    simp only [iS, iT, r_ld cS, r_ld cT, r_fa, Nat.zero_add, r_ld b1, r_ld b2, hneg, r_eql, hself, decide_true, r_gqTT, r_pickT, hmul, flow_box h92, r_gdTT]
    refine r_use fok23 (level_calls (T := ((trees n ws : Nat) : Int)) (p := fun v => (pot n ws s t v : Int)) w2 hN hs ht htr hcl hc (fun y => ⟨by omega, by have := pot_small (n := n) (l := ws) (s := s) (t := t) (v := y) hN.few; omega⟩) (show (pot n ws s t t : Int) = 0 by rw [pot_t]; rfl) (show (pot n ws s t s : Int) = (volt n ws s t : Nat) by rw [pot_s hst]) (hr.kp k02) (hcv.below k02)) rfl ?_
    rintro _ w3 ⟨rfl, k3⟩
    refine ⟨_, rfl, r_keep k3 ?_⟩
    simp only [r_pickT, r_gdTT]
    have k03 := Kp.trans km (Kp.trans k02 k3)
    refine r_use fok14 (alive_calls w3 (hw.kp k03)) rfl ?_
    rintro _ w4 ⟨rfl, k4⟩
    refine ⟨_, rfl, r_keep k4 ?_⟩
    exact ⟨by first | rfl | trivial, Kp.trans k03 k4⟩
  have hlt' : (x : Int) < (n : Int) := by omega
  simp only [r_lss, decide_eq_true hlt', r_condT]
  have next : (∃ x' : Nat, x' ≤ n ∧ Value.int .i64 ((x : Int) + 1) = .int .i64 x' ∧ IntsAt wm.heap.size wr t79 out ∧ Kp wm wr) ∧ n - (intOf (.int .i64 ((x : Int) + 1))).toNat < n - (intOf (.int .i64 (x : Int))).toNat :=
    ⟨⟨x + 1, by omega, by go_num, hO, kr⟩, by simp only [intOf]; omega⟩
  by_cases e1 : x = s
  · have e1' : (x : Int) = (s : Int) := by omega
    simp (disch := omega) only [r_ln, r_pick, r_pickT, r_pickF, r_condT, r_condF, r_gdTT, r_gdFF, r_gdTF, r_gdFT, r_gqTT, r_gqFF, r_gqTF, r_gqFT, r_not, r_lss, r_leq, r_gtr, r_geq, r_eql, r_neq, r_add, r_sub, r_min2, r_max2, r_min3, r_max3, r_fa, r_iaS, r_iaA, r_ex2a, r_ex2b, r_ex3a, r_ex3b, r_ex3c, r_nc, r_keepE, Nat.zero_add, Nat.add_zero, Nat.mul_one, Int.toNat_natCast, toNat_sub1, toNat_add1, decide_true, decide_false, Bool.not_true, Bool.not_false, if_true, if_false, Bool.false_eq_true, reduceCtorEq, r_gdU, decide_eq_true e1']
    exact next
  have e1' : ¬ (x : Int) = (s : Int) := by omega
  by_cases e2 : x = t
  · have e2' : (x : Int) = (t : Int) := by omega
    simp (disch := omega) only [r_ln, r_pick, r_pickT, r_pickF, r_condT, r_condF, r_gdTT, r_gdFF, r_gdTF, r_gdFT, r_gqTT, r_gqFF, r_gqTF, r_gqFT, r_not, r_lss, r_leq, r_gtr, r_geq, r_eql, r_neq, r_add, r_sub, r_min2, r_max2, r_min3, r_max3, r_fa, r_iaS, r_iaA, r_ex2a, r_ex2b, r_ex3a, r_ex3b, r_ex3c, r_nc, r_keepE, Nat.zero_add, Nat.add_zero, Nat.mul_one, Int.toNat_natCast, toNat_sub1, toNat_add1, decide_true, decide_false, Bool.not_true, Bool.not_false, if_true, if_false, Bool.false_eq_true, reduceCtorEq, r_gdU, e1', decide_eq_true e2']
    exact next
  have e2' : ¬ (x : Int) = (t : Int) := by omega
  obtain ⟨g, eg, ar⟩ := IntsAt.ar hO (by omega)
  obtain ⟨iX, cX, _, _⟩ := ar x (by omega)
  have vX : out.getD x 0 = 0 := by rw [hout x hlt]; simp [unit, e1, e2]
  rw [vX] at cX
  have n00 : decide ((0 : Int) = 0) = true := rfl
  simp (disch := omega) only [r_ln, r_pick, r_pickT, r_pickF, r_condT, r_condF, r_gdTT, r_gdFF, r_gdTF, r_gdFT, r_gqTT, r_gqFF, r_gqTF, r_gqFT, r_not, r_lss, r_leq, r_gtr, r_geq, r_eql, r_neq, r_add, r_sub, r_min2, r_max2, r_min3, r_max3, r_fa, r_iaS, r_iaA, r_ex2a, r_ex2b, r_ex3a, r_ex3b, r_ex3c, r_nc, r_keepE, Nat.zero_add, Nat.add_zero, Nat.mul_one, Int.toNat_natCast, toNat_sub1, toNat_add1, decide_true, decide_false, Bool.not_true, Bool.not_false, if_true, if_false, Bool.false_eq_true, reduceCtorEq, r_gdU, e1', e2', iX, r_ld cX, n00]
  exact next

set_option maxRecDepth 100000 in
set_option maxHeartbeats 2000000 in
theorem law_power {v : Value} {L : List (Int × Int)} (n s t : Int) (W0 : World) (hw : Wh W0) (hr : RdW W0 v L) : Calls Tryd.prog 4 #[.int .i64 n, v, .int .i64 s, .int .i64 t] W0 fun e w' => e = .returned (.bool true) ∧ Kp W0 w' := by
  obtain ⟨va, vc, ev, _⟩ := hr.len
  have lnv : ∀ K : Value → Prop, ln1 v K = K (.int .i64 L.length) := fun K => by rw [ev]; rfl
  refine lift4 ?_
  unfold S4
  refine r_use fok21 (few_calls W0 hr) rfl ?_
  rintro _ _ ⟨rfl, rfl⟩
  refine ⟨_, rfl, ?_⟩
  have fin : ∀ w' : World, Kp W0 w' → callW Tryd.prog (.func (.func 14) #[] #[]) [] w' fun t w1 => Ending.returned t = .returned (.bool true) ∧ Kp W0 w1 := fun w' k => by
    refine r_use fok14 (alive_calls w' (hw.kp k)) rfl ?_
    rintro _ w4 ⟨rfl, k4⟩
    exact ⟨_, rfl, rfl, Kp.trans k k4⟩
  by_cases h40 : L.length ≤ 40
  case neg =>
    simp (disch := omega) only [r_ln, r_pick, r_pickT, r_pickF, r_condT, r_condF, r_gdTT, r_gdFF, r_gdTF, r_gdFT, r_gqTT, r_gqFF, r_gqTF, r_gqFT, r_not, r_lss, r_leq, r_gtr, r_geq, r_eql, r_neq, r_add, r_sub, r_min2, r_max2, r_min3, r_max3, r_fa, r_iaS, r_iaA, r_ex2a, r_ex2b, r_ex3a, r_ex3b, r_ex3c, r_nc, r_keepE, Nat.zero_add, Nat.add_zero, Nat.mul_one, Int.toNat_natCast, toNat_sub1, toNat_add1, decide_true, decide_false, Bool.not_true, Bool.not_false, if_true, if_false, Bool.false_eq_true, reduceCtorEq, h40]
    exact fin W0 (Kp.refl _)
  simp (disch := omega) only [r_ln, r_pick, r_pickT, r_pickF, r_condT, r_condF, r_gdTT, r_gdFF, r_gdTF, r_gdFT, r_gqTT, r_gqFF, r_gqTF, r_gqFT, r_not, r_lss, r_leq, r_gtr, r_geq, r_eql, r_neq, r_add, r_sub, r_min2, r_max2, r_min3, r_max3, r_fa, r_iaS, r_iaA, r_ex2a, r_ex2b, r_ex3a, r_ex3b, r_ex3c, r_nc, r_keepE, Nat.zero_add, Nat.add_zero, Nat.mul_one, Int.toNat_natCast, toNat_sub1, toNat_add1, decide_true, decide_false, Bool.not_true, Bool.not_false, if_true, if_false, Bool.false_eq_true, reduceCtorEq, h40]
  refine r_use fok22 (Through_calls (n := n) (s := s) (t := t) W0 hw hr) rfl ?_
  rintro _ w1 ⟨k1, cv, rfl, hC⟩
  refine ⟨_, rfl, ?_⟩
  rw [r_ex2a, r_ex2b]
  obtain ⟨ca, cc, ecv, _⟩ := hC.len
  refine r_box fun b9 w2 e9 s9 h9 k2 => ?_
  have h9' : w2.heap[b9]? = some (.cells #[.slice none 0 0, .int .i64 0, .int .i64 0] 36 (0, 0)) := h9
  have sz1 := k1.size
  rw [ecv]
  refine st36 h9' fun w3 c3 s3 h93 => ?_
  rw [← ecv] at h93
  have k13 : Kp w1 w3 := Kp.of_chg k2 c3 fun q e => by omega
  have k03 := Kp.trans k1 k13
  refine r_use fok22 (Through_calls (n := n) (s := t) (t := s) w3 (hw.kp k03) (hr.kp k03)) rfl ?_
  rintro _ w4 ⟨k4, cv2, rfl, hC2⟩
  refine ⟨_, rfl, ?_⟩
  rw [r_ex2a, r_ex2b, ← thE_turn n L s t]
  obtain ⟨ca2, cc2, ecv2, _⟩ := hC2.len
  refine r_box fun b11 w5 e11 s11 h11 k5 => ?_
  have h11' : w5.heap[b11]? = some (.cells #[.slice none 0 0, .int .i64 0, .int .i64 0] 36 (0, 0)) := h11
  have sz3 := k03.size
  have sz4 := k4.size
  rw [ecv2]
  refine st36 h11' fun w6 c6 s6 h116 => ?_
  rw [← ecv2] at h116
  have k46 : Kp w4 w6 := Kp.of_chg k5 c6 fun q e => by omega
  have k36 := Kp.trans k4 k46
  have k06 := Kp.trans k03 k36
  have h96 := block_below h93 k36
  have hself : ∀ q : Int, decide (q = q) = true := fun q => decide_eq_true rfl
  by_cases hE : thE n L s t = 0
  case neg =>
    rw [r_neq, hself]
    simp only [Bool.not_true, r_gdFF, r_neq, decide_eq_false hE, Bool.not_false, r_pickF, r_condT, r_eql, hself, decide_true, r_gdTT]
    refine r_use fok14 (alive_calls w6 (hw.kp k06)) rfl ?_
    rintro _ w7 ⟨rfl, k7⟩
    refine ⟨_, rfl, ?_⟩
    exact ⟨by first | rfl | trivial, Kp.trans k06 k7⟩
  have hE2 : thE n L t s = 0 := by rw [← thE_turn]; exact hE
  obtain ⟨N, S, T, rfl, rfl, rfl, hN, hS, hT, hST, hpos, _⟩ := rs_ok hE
  obtain ⟨_, _, hb⟩ : netErr N L = 0 ∧ True ∧ ∀ e ∈ L, wN (natW e) = wC e := by
    have hz : endErr N L S T = 0 := by
      unfold thE at hE
      by_cases h : endErr N L S T = 0
      · exact h
      · rw [if_neg h] at hE; exact hE
    obtain ⟨h0, _⟩ := end_ok hz
    obtain ⟨N', e, _, hb⟩ := net_ok h0
    exact ⟨h0, trivial, hb⟩
  have tT : thT N L S T = (trees N (L.map natW) : Nat) := by unfold thT; rw [if_pos hE]; rfl
  have tV : thV N L S T = (volt N (L.map natW) S T : Nat) := by unfold thV; rw [if_pos hE]; rfl
  have tC : thC N L S T = flowC N (L.map natW) S T := by unfold thC; rw [if_pos hE]; rfl
  have tT2 : thT N L T S = (trees N (L.map natW) : Nat) := by unfold thT; rw [if_pos hE2]; rfl
  have tV2 : thV N L T S = (volt N (L.map natW) S T : Nat) := by unfold thV; rw [if_pos hE2, volt_comm]; rfl
  have tC2 : thC N L T S = flowC N (L.map natW) T S := by unfold thC; rw [if_pos hE2]; rfl
  rw [tT, tV] at h96
  rw [tT2, tV2] at h116
  rw [tC] at hC ecv
  rw [tC2] at hC2 ecv2
  have fl : (flowC N (L.map natW) S T).length = L.length := by simp [flowC]
  have fl2 : (flowC N (L.map natW) T S).length = L.length := by simp [flowC]
  have hfew := hN.few
  rw [List.length_map] at hfew
  have lncv : ∀ K : Value → Prop, ln1 cv K = K (.int .i64 L.length) := fun K => by rw [ecv, fl]; rfl
  have lncv2 : ∀ K : Value → Prop, ln1 cv2 K = K (.int .i64 L.length) := fun K => by rw [ecv2, fl2]; rfl
  have p0 : w6.cell? ⟨b9, 0, none⟩ = some cv := by rw [cell_row h96]; rfl
  have p1 : w6.cell? ⟨b9, 1, none⟩ = some (.int .i64 (trees N (L.map natW) : Nat)) := by rw [cell_row h96]; rfl
  have p2 : w6.cell? ⟨b9, 2, none⟩ = some (.int .i64 (volt N (L.map natW) S T : Nat)) := by rw [cell_row h96]; rfl
  have q0 : w6.cell? ⟨b11, 0, none⟩ = some cv2 := by rw [cell_row h116]; rfl
  have q1 : w6.cell? ⟨b11, 1, none⟩ = some (.int .i64 (trees N (L.map natW) : Nat)) := by rw [cell_row h116]; rfl
  have q2 : w6.cell? ⟨b11, 2, none⟩ = some (.int .i64 (volt N (L.map natW) S T : Nat)) := by rw [cell_row h116]; rfl
  rw [hE]
  simp only [r_neq, hself, decide_true, Bool.not_true, r_gdFF, r_pickF, r_condF, r_fa, Nat.zero_add, r_ld p0, r_ld p1, r_ld p2, r_ld q0, r_ld q1, r_ld q2, lncv, lncv2, lnv]
  have h2 := hN.two
  have h8 := hN.most
  refine mk34' (n := N) (by omega) fun v7 w7 I7 k7 _ => ?_
  have rC : RdInts w6 cv (flowC N (L.map natW) S T) := Rd.ints ((RecAt.kp hC (Kp.trans k13 k36)).rd iC_len) (by rw [fl]; omega)
  have rC2 : RdInts w6 cv2 (flowC N (L.map natW) T S) := Rd.ints ((RecAt.kp hC2 k46).rd iC_len) (by rw [fl2]; omega)
  have hws : Rd 2 wN w6 v (L.map natW) := RdW.nat (hr.kp k06) hb
  have hc : ∀ k, k < (L.map natW).length → (flowC N (L.map natW) S T).getD k 0 = (pot N (L.map natW) S T ((L.map natW).getD k (0, 0)).1 : Int) - pot N (L.map natW) S T ((L.map natW).getD k (0, 0)).2 := fun k hk => flowC_at hk
  refine r4_0 (p := fun v => (pot N (L.map natW) S T v : Int)) hN.wf hN.few h8 (by omega) (by rw [fl, List.length_map]) hc (by rw [fl2, List.length_map]) (fun k hk => ?_) (fun x => ⟨by omega, by have := pot_small (n := N) (l := L.map natW) (s := S) (t := T) (v := x) hN.few; omega⟩) hws rC rC2 h96 h116 I7 k7 fun w8 out hO hol hout k8 => ?_
  · rw [flowC_at hk]
    have hw := hN.wf ((L.map natW).getD k (0, 0)) (by rw [getD_lt _ _ _ hk]; exact List.getElem_mem hk)
    have t1 := pot_turn hN.wf hS hT hST hw.1
    have t2 := pot_turn hN.wf hS hT hST hw.2.1
    show (pot N (L.map natW) T S _ : Int) - pot N (L.map natW) T S _ = -((pot N (L.map natW) S T _ : Int) - pot N (L.map natW) S T _)
    omega
  rw [pot_power hN.wf hS hT hST]
  refine r4_1 hN hS hT hST (by omega) (by rw [fl, List.length_map]) hc hw k06 hws rC h96 hO hol (fun x hx => ?_) k8
  exact (hout x hx).trans ((lap_sum (fun v => (pot N (L.map natW) S T v : Int)) x hN.wf).symm.trans (pot_lap hN.wf hS hT hST hx))

end Go.Proofs.YtkdcldbedbagjaaDoor
