/- Contracts: pace, share, Resistance, Chance of the program. -/
import Derived.Test.YtkdcldbedbagjaaDoorKk
set_option linter.all false
namespace Go.Proofs.YtkdcldbedbagjaaDoor
open Go.Lf Go.RowKit Go.Dt

/-- A fraction in lowest terms. -/
def paceOf (a b : Nat) : Int × Int := (((a / Nat.gcd a b : Nat) : Int), ((b / Nat.gcd a b : Nat) : Int))
abbrev paV (p : Int × Int) : Value := wV p.1 p.2

theorem pace_box {w : World} {b : Nat} {p q : Int} (h : w.heap[b]? = some (.cells #[.int .i64 p, .int .i64 q] 58 (0, 0))) (K : Value → Prop) : ldN 2 w (ptrV b) K = K (wV p q) := r_ldRow h rfl

set_option maxRecDepth 100000 in
theorem pace_calls {a b : Nat} (w : World) (hb : 0 < b) (ha1 : a ≤ 1000000) (hb1 : b ≤ 1000000) : Calls Tryd.prog 78 #[.int .i64 a, .int .i64 b] w fun e w' => e = .returned (paV (paceOf a b)) ∧ Kp w w' := by
  refine lift78 ?_
  unfold S78
  refine r_box fun b4 w1 e4 s4 h4 k1 => ?_
  have h4' : w1.heap[b4]? = some (.cells #[.int .i64 0, .int .i64 0] 58 (0, 0)) := h4
  unfold S78L0
  refine ⟨fun t5 t6 wr => ∃ x y : Nat, t5 = .int .i64 x ∧ t6 = .int .i64 y ∧ Nat.gcd x y = Nat.gcd a b ∧ Kp w wr ∧ wr.heap[b4]? = some (.cells #[.int .i64 0, .int .i64 0] 58 (0, 0)), fun _ t6 _ => (intOf t6).toNat, ⟨a, b, rfl, rfl, rfl, k1, h4'⟩, ?_⟩
  rintro _ _ _ wr ⟨x, y, rfl, rfl, hg, kr, h4r⟩
  have hpos : 0 < Nat.gcd a b := Nat.gcd_pos_of_pos_right _ hb
  by_cases hy : y = 0
  · subst hy
    have h0 : (((0 : Nat) : Int) = 0) := rfl
    simp only [r_neq, decide_eq_true h0, Bool.not_true, r_condF]
    rw [Nat.gcd_zero_right] at hg
    rw [hg]
    refine r_drew fun w2 k2 _ => ?_
    rw [r_quoN _ _ hpos (by omega), r_quoN _ _ hpos (by omega), bd58]
    refine st58 (block_below h4r k2) fun w3 c3 s3 h3 => ?_
    rw [pace_box h3]
    exact ⟨rfl, Kp.of_chg (Kp.trans kr k2) c3 fun q e => by omega⟩
  · have h0 : ¬ ((y : Int) = 0) := by omega
    simp only [r_neq, h0, decide_false, Bool.not_false, r_condT]
    refine r_drew fun w2 k2 _ => ?_
    rw [r_remN _ _ (by omega)]
    refine ⟨⟨y, x % y, rfl, rfl, ?_, Kp.trans kr k2, block_below h4r k2⟩, ?_⟩
    · rw [← hg, Nat.gcd_comm x y, Nat.gcd_rec y x, Nat.gcd_comm]
    · have := Nat.mod_lt x (show y > 0 by omega)
      simp only [intOf]; omega

noncomputable def shP (N : Nat) (ws : List Wr) (S T : Nat) : Int × Int := if trees N ws = 0 then (0, 0) else paceOf (volt N ws S T) (trees N ws)
set_option maxRecDepth 100000 in
theorem share_calls {N S T : Nat} {ws : List Wr} {wv : Value} (w : World) (hw : Wh w) (hN : NetOk N ws) (hwv : Rd 2 wN w wv ws) (hs : S < N) (ht : T < N) (hst : S ≠ T) :
    Calls Tryd.prog 62 #[netV N wv, .int .i64 S, .int .i64 T] w fun e w' => e = .returned (.tuple #[paV (shP N ws S T), .int .i64 (if trees N ws = 0 then 10 else 0)]) ∧ Kp w w' := by
  have hfew := hN.few
  have s1 := trees_small (n := N) hfew
  have s2 := volt_small (n := N) (s := S) (t := T) hfew
  refine lift62 ?_
  unfold S62
  refine r_box fun b3 w1 e3 s3 h3 k1 => ?_
  refine r_box fun b6 w2 e6 s6 h6 k2 => ?_
  have k02 := Kp.trans k1 k2
  have h3' : w1.heap[b3]? = some (.cells #[.int .i64 N, wv] 80 (0, 0)) := h3
  have h6' : w2.heap[b6]? = some (.cells #[.int .i64 0, .int .i64 0] 58 (0, 0)) := h6
  have h32 := block_below h3' k2
  rw [net_box h32]
  refine r_use fok55 (trees_calls w2 (hw.kp k02) hN (hwv.kp k02)) rfl ?_
  rintro _ w3 ⟨rfl, k3⟩
  refine ⟨_, rfl, ?_⟩
  have k03 := Kp.trans k02 k3
  have h33 := block_below h32 k3
  have h63 := block_below h6' k3
  have hsz := k2.size
  unfold shP
  rw [r_eql]
  by_cases hz : trees N ws = 0
  · have hz' : ((trees N ws : Nat) : Int) = 0 := by omega
    rw [decide_eq_true hz', r_condT, bd58_0, if_pos hz, if_pos hz]
    refine st58 h63 fun w4 c4 s4 h4 => ?_
    rw [pace_box h4]
    exact ⟨rfl, Kp.of_chg k03 c4 fun q e => by omega⟩
  · have hz' : ¬ ((trees N ws : Nat) : Int) = 0 := by omega
    rw [decide_eq_false hz', r_condF, if_neg hz, if_neg hz, net_box h33]
    refine r_use fok56 (merged_calls w3 (hw.kp k03) hN (hwv.kp k03) hs ht hst) rfl ?_
    rintro _ w4 ⟨rfl, k4⟩
    refine ⟨_, rfl, ?_⟩
    refine r_use fok78 (pace_calls w4 (by omega) (by omega) (by omega)) rfl ?_
    rintro _ w5 ⟨rfl, k5⟩
    refine ⟨_, rfl, ?_⟩
    refine st58 (block_below h63 (Kp.trans k4 k5)) fun w6 c6 s6 h66 => ?_
    rw [pace_box h66]
    exact ⟨rfl, Kp.of_chg (Kp.trans k03 (Kp.trans k4 k5)) c6 fun q e => by omega⟩

noncomputable def rsP (n : Int) (L : List (Int × Int)) (s t : Int) : Int × Int := if endErr n L s t = 0 then shP n.toNat (L.map natW) s.toNat t.toNat else (0, 0)
set_option maxRecDepth 100000 in
theorem Resist_calls {v : Value} {L : List (Int × Int)} {n s t : Int} (w : World) (hw : Wh w) (hr : RdW w v L) :
    Calls Tryd.prog 36 #[.int .i64 n, v, .int .i64 s, .int .i64 t] w fun e w' => Kp w w' ∧ e = .returned (.tuple #[paV (rsP n L s t), .int .i64 (thE n L s t)]) := by
  obtain ⟨a, cap, ev, _⟩ := hr.len
  refine lift36 ?_
  unfold S36
  refine r_box fun b8 w1 e8 s8 h8 k1 => ?_
  have h8' : w1.heap[b8]? = some (.cells #[.int .i64 0, .int .i64 0] 58 (0, 0)) := h8
  refine r_use fok54 (between_calls (n := n) (s := s) (t := t) w1 (hr.kp k1)) rfl ?_
  rintro _ w2 ⟨k2, rfl⟩
  refine ⟨_, rfl, ?_⟩
  have k02 := Kp.trans k1 k2
  rw [r_ex2a, r_ex2b]
  refine r_box fun b10 w3 e10 s10 h10 k3 => ?_
  have k03 := Kp.trans k02 k3
  have h10' : w3.heap[b10]? = some (.cells #[.int .i64 0, .slice none 0 0] 80 (0, 0)) := h10
  have h83 := block_below h8' (Kp.trans k2 k3)
  have hsz := k2.size
  unfold rsP
  by_cases h0 : endErr n L s t = 0
  case neg =>
    have hE : thE n L s t = endErr n L s t := if_neg h0
    obtain ⟨k, a', m', c', hx⟩ : ∃ k a' m' c', (if netErr n L = 0 then netV n v else netV 0 nilS) = netV k (.slice a' m' c') := by
      split
      · exact ⟨_, _, _, _, by rw [ev]⟩
      · exact ⟨_, _, _, _, rfl⟩
    rw [hx]
    refine st80 h10' fun w4 c4 s4 h4 => ?_
    have k04 : Kp w w4 := Kp.of_chg k03 c4 fun q e => by omega
    rw [r_neq, decide_eq_false h0, Bool.not_false, r_condT, bd58_0, if_neg h0, hE]
    refine st58 (c4.at h83 (by omega)) fun w5 c5 s5 h5 => ?_
    rw [pace_box h5]
    exact ⟨Kp.of_chg k04 c5 fun q e => by omega, rfl⟩
  obtain ⟨hn0, S, T, rfl, rfl, hS, hT, hST⟩ := end_ok h0
  rw [if_pos hn0, ev]
  refine st80 h10' fun w4 c4 s4 h4 => ?_
  have k04 : Kp w w4 := Kp.of_chg k03 c4 fun q e => by omega
  have h84 := c4.at h83 (by omega)
  rw [r_neq, decide_eq_true h0, Bool.not_true, r_condF, if_pos h0]
  obtain ⟨N, rfl, hN, hb⟩ := net_ok hn0
  have hNN : (N : Int).toNat = N := by omega
  have hE : thE N L S T = if trees N (L.map natW) = 0 then 10 else 0 := by unfold thE; rw [if_pos h0, hNN]
  rw [net_box h4, ← ev, hE]
  refine r_use fok62 (share_calls w4 (hw.kp k04) hN (RdW.nat (hr.kp k04) hb) (by omega) (by omega) hST) rfl ?_
  rintro _ w5 ⟨rfl, k5⟩
  refine ⟨_, rfl, ?_⟩
  rw [r_ex2a, r_ex2b]
  refine st58 (block_below h84 k5) fun w6 c6 s6 h6 => ?_
  rw [pace_box h6]
  exact ⟨Kp.of_chg (Kp.trans k04 k5) c6 fun q e => by omega, rfl⟩

/-- Chance's error and fraction. -/
noncomputable def chE (n : Int) (L : List (Int × Int)) (i : Int) : Int := if netErr n L = 0 then (if i < 0 ∨ (L.length : Int) ≤ i then 6 else if trees n.toNat (L.map natW) = 0 then 10 else 0) else netErr n L
noncomputable def chP (n : Int) (L : List (Int × Int)) (i : Int) : Int × Int := if netErr n L = 0 ∧ ¬ (i < 0 ∨ (L.length : Int) ≤ i) then shP n.toNat (L.map natW) ((L.map natW).getD i.toNat (0, 0)).1 ((L.map natW).getD i.toNat (0, 0)).2 else (0, 0)
set_option maxRecDepth 100000 in
set_option maxHeartbeats 1000000 in
theorem Chance_calls {v : Value} {L : List (Int × Int)} {n i : Int} (w : World) (hw : Wh w) (hr : RdW w v L) :
    Calls Tryd.prog 39 #[.int .i64 n, v, .int .i64 i] w fun e w' => Kp w w' ∧ e = .returned (.tuple #[paV (chP n L i), .int .i64 (chE n L i)]) := by
  obtain ⟨a, cap, ev, _⟩ := hr.len
  have lnv : ∀ K : Value → Prop, ln1 v K = K (.int .i64 L.length) := fun K => by rw [ev]; rfl
  refine lift39 ?_
  unfold S39
  refine r_box fun b6 w1 e6 s6 h6 k1 => ?_
  have h6' : w1.heap[b6]? = some (.cells #[.int .i64 0, .int .i64 0] 58 (0, 0)) := h6
  refine r_use fok58 (of_calls (n := n) w1 (hr.kp k1)) rfl ?_
  rintro _ w2 ⟨k2, rfl⟩
  refine ⟨_, rfl, ?_⟩
  have k02 := Kp.trans k1 k2
  rw [r_ex2a, r_ex2b]
  refine r_box fun b8 w3 e8 s8 h8 k3 => ?_
  have k03 := Kp.trans k02 k3
  have h8' : w3.heap[b8]? = some (.cells #[.int .i64 0, .slice none 0 0] 80 (0, 0)) := h8
  have h63 := block_below h6' (Kp.trans k2 k3)
  have hsz := k2.size
  have empty : ∀ (w' : World) (E : Int), Kp w w' → w'.heap[b6]? = some (.cells #[.int .i64 0, .int .i64 0] 58 (0, 0)) → chE n L i = E → chP n L i = (0, 0) →
      bdQ Tryd.prog 58 [] fun t30 => stW Tryd.prog 58 (ptrV b6) t30 w' fun w_1 => ldN 2 w_1 (ptrV b6) fun r => (Kp w w_1 ∧ Ending.returned (Value.tuple #[r, .int .i64 E]) = .returned (.tuple #[paV (chP n L i), .int .i64 (chE n L i)])) := fun w' E k h hE hP => by
    rw [bd58_0, hE, hP]
    refine st58 h fun w5 c5 s5 h5 => ?_
    rw [pace_box h5]
    exact ⟨Kp.of_chg k c5 fun q e => by omega, rfl⟩
  by_cases h0 : netErr n L = 0
  case neg =>
    rw [if_neg h0]
    refine st80 h8' fun w4 c4 s4 h4 => ?_
    have k04 : Kp w w4 := Kp.of_chg k03 c4 fun q e => by omega
    rw [r_neq, decide_eq_false h0, Bool.not_false, r_condT]
    exact empty w4 _ k04 (c4.at h63 (by omega)) (if_neg h0) (if_neg fun h => h0 h.1)
  rw [if_pos h0, ev]
  refine st80 h8' fun w4 c4 s4 h4 => ?_
  have k04 : Kp w w4 := Kp.of_chg k03 c4 fun q e => by omega
  have h64 := c4.at h63 (by omega)
  rw [r_neq, decide_eq_true h0, Bool.not_true, r_condF]
  rw [← ev] at h4 ⊢
  by_cases g1 : i < 0
  · have := empty w4 6 k04 h64 (by unfold chE; rw [if_pos h0, if_pos (.inl g1)]) (if_neg fun h => h.2 (.inl g1))
    simp (disch := omega) only [r_ln, r_pick, r_pickT, r_pickF, r_condT, r_condF, r_gdTT, r_gdFF, r_gdTF, r_gdFT, r_gqTT, r_gqFF, r_gqTF, r_gqFT, r_not, r_lss, r_leq, r_gtr, r_geq, r_eql, r_neq, r_add, r_sub, r_min2, r_max2, r_min3, r_max3, r_fa, r_iaS, r_iaA, r_ex2a, r_ex2b, r_ex3a, r_ex3b, r_ex3c, r_nc, r_keepE, Nat.zero_add, Nat.add_zero, Nat.mul_one, Int.toNat_natCast, toNat_sub1, toNat_add1, decide_true, decide_false, Bool.not_true, Bool.not_false, if_true, if_false, Bool.false_eq_true, reduceCtorEq, r_gdU, decide_eq_true g1]
    exact this
  by_cases g2 : (L.length : Int) ≤ i
  · have := empty w4 6 k04 h64 (by unfold chE; rw [if_pos h0, if_pos (.inr g2)]) (if_neg fun h => h.2 (.inr g2))
    simp (disch := omega) only [r_ln, r_pick, r_pickT, r_pickF, r_condT, r_condF, r_gdTT, r_gdFF, r_gdTF, r_gdFT, r_gqTT, r_gqFF, r_gqTF, r_gqFT, r_not, r_lss, r_leq, r_gtr, r_geq, r_eql, r_neq, r_add, r_sub, r_min2, r_max2, r_min3, r_max3, r_fa, r_iaS, r_iaA, r_ex2a, r_ex2b, r_ex3a, r_ex3b, r_ex3c, r_nc, r_keepE, Nat.zero_add, Nat.add_zero, Nat.mul_one, Int.toNat_natCast, toNat_sub1, toNat_add1, decide_true, decide_false, Bool.not_true, Bool.not_false, if_true, if_false, Bool.false_eq_true, reduceCtorEq, r_gdU, g1, lnv, decide_eq_true g2]
    exact this
  obtain ⟨N, rfl, hN, hb⟩ := net_ok h0
  obtain ⟨I, rfl⟩ : ∃ I : Nat, i = I := ⟨i.toNat, by omega⟩
  have hII : (I : Int).toNat = I := by omega
  have hNN : (N : Int).toNat = N := by omega
  have hE : chE N L I = if trees N (L.map natW) = 0 then 10 else 0 := by unfold chE; rw [if_pos h0, if_neg (by omega), hNN]
  have hP : chP N L I = shP N (L.map natW) ((L.map natW).getD I (0, 0)).1 ((L.map natW).getD I (0, 0)).2 := by unfold chP; rw [if_pos ⟨h0, by omega⟩, hNN, hII]
  rw [hE, hP]
  have hI : I < L.length := by omega
  have hmem : (L.map natW).getD I (0, 0) ∈ L.map natW := getD_mem (by rw [List.length_map]; exact hI)
  obtain ⟨hA, hB, hne⟩ := hN.wf _ hmem
  simp (disch := omega) only [r_ln, r_pick, r_pickT, r_pickF, r_condT, r_condF, r_gdTT, r_gdFF, r_gdTF, r_gdFT, r_gqTT, r_gqFF, r_gqTF, r_gqFT, r_not, r_lss, r_leq, r_gtr, r_geq, r_eql, r_neq, r_add, r_sub, r_min2, r_max2, r_min3, r_max3, r_fa, r_iaS, r_iaA, r_ex2a, r_ex2b, r_ex3a, r_ex3b, r_ex3c, r_nc, r_keepE, Nat.zero_add, Nat.add_zero, Nat.mul_one, Int.toNat_natCast, toNat_sub1, toNat_add1, decide_true, decide_false, Bool.not_true, Bool.not_false, if_true, if_false, Bool.false_eq_true, reduceCtorEq, r_gdU, g1, g2, lnv]
  refine r_drew fun w5 k5 _ => ?_
  have k05 := Kp.trans k04 k5
  have hwv := RdW.nat (hr.kp k05) hb
  obtain ⟨b, off, cap', ev', _, hc⟩ := hwv.at (List.getElem?_eq_getElem (by rw [List.length_map]; exact hI) : (L.map natW)[I]? = some _)
  have ia : ∀ K : Value → Prop, iaS 2 v (.int .i64 I) K = K (.pointer (some ⟨b, off + I * 2, none⟩)) := fun K => by
    rw [ev', r_iaS _ _ _ _ _ _ _ (by omega) (by rw [List.length_map]; omega), hII]
  rw [← getD_lt _ _ (0, 0) (by rw [List.length_map]; exact hI)] at hc
  have c0 := hc 0 _ rfl
  have c1 := hc 1 _ rfl
  rw [net_box (block_below h4 k5), ia, r_fa, r_ld c0, ia, r_fa, r_ld c1]
  refine r_use fok62 (share_calls w5 (hw.kp k05) hN hwv hA hB hne) rfl ?_
  rintro _ w6 ⟨rfl, k6⟩
  refine ⟨_, rfl, ?_⟩
  rw [r_ex2a, r_ex2b]
  refine st58 (block_below h64 (Kp.trans k5 k6)) fun w7 c7 s7 h7 => ?_
  rw [pace_box h7]
  exact ⟨Kp.of_chg (Kp.trans k05 k6) c7 fun q e => by omega, rfl⟩

end Go.Proofs.YtkdcldbedbagjaaDoor
