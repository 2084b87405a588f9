/- Texts of my own, merged by program: Kl Sc Sd. -/
import Derived.Test.YtkdcldbedbagjaaDoorM12
import Derived.Test.YtkdcldbedbagjaaDoorM02
set_option linter.all false
/- Contracts: pace, share, Resistance, Chance of the program. -/
namespace Go.Proofs.YtkdcldbedbagjaaDoor
open Go.Lf Go.RowKit Go.Dt

/-- A fraction in lowest terms. -/
def paceOf (a b : Nat) : Int × Int := (((a / Nat.gcd a b : Nat) : Int), ((b / Nat.gcd a b : Nat) : Int))
abbrev paV (p : Int × Int) : Value := wV p.1 p.2

theorem pace_box {w : World} {b : Nat} {p q : Int} (h : w.heap[b]? = some (.cells #[.int .i64 p, .int .i64 q] 58 (0, 0))) (K : Value → Prop) : ldN 2 w (ptrV b) K = K (wV p q) := r_ldRow h rfl

set_option maxRecDepth 100000 in
theorem pace_calls {a b : Nat} (w : World) (hb : 0 < b) (ha1 : a ≤ 1000000) (hb1 : b ≤ 1000000) : Calls Tryd.prog 78 #[.int .i64 a, .int .i64 b] w fun e w' => e = .returned (paV (paceOf a b)) ∧ Kp w w' := by
  refine lift78 ?_
  unfold S78
  refine r_box fun b4 w1 e4 s4 h4 k1 => ?_
  have h4' : w1.heap[b4]? = some (.cells #[.int .i64 0, .int .i64 0] 58 (0, 0)) := h4
  unfold S78L0
  refine ⟨fun t5 t6 wr => ∃ x y : Nat, t5 = .int .i64 x ∧ t6 = .int .i64 y ∧ Nat.gcd x y = Nat.gcd a b ∧ Kp w wr ∧ wr.heap[b4]? = some (.cells #[.int .i64 0, .int .i64 0] 58 (0, 0)), fun _ t6 _ => (intOf t6).toNat, ⟨a, b, rfl, rfl, rfl, k1, h4'⟩, ?_⟩
  rintro _ _ _ wr ⟨x, y, rfl, rfl, hg, kr, h4r⟩
  have hpos : 0 < Nat.gcd a b := Nat.gcd_pos_of_pos_right _ hb
  by_cases hy : y = 0
  · subst hy
    have h0 : (((0 : Nat) : Int) = 0) := rfl
    simp only [r_neq, decide_eq_true h0, Bool.not_true, r_condF]
    rw [Nat.gcd_zero_right] at hg
    rw [hg]
    refine r_drew fun w2 k2 _ => ?_
    rw [r_quoN _ _ hpos (by omega), r_quoN _ _ hpos (by omega), bd58]
    refine st58 (block_below h4r k2) fun w3 c3 s3 h3 => ?_
    rw [pace_box h3]
    exact ⟨rfl, Kp.of_chg (Kp.trans kr k2) c3 fun q e => by omega⟩
  · have h0 : ¬ ((y : Int) = 0) := by omega
    simp only [r_neq, h0, decide_false, Bool.not_false, r_condT]
    refine r_drew fun w2 k2 _ => ?_
    rw [r_remN _ _ (by omega)]
    refine ⟨⟨y, x % y, rfl, rfl, ?_, Kp.trans kr k2, block_below h4r k2⟩, ?_⟩
    · rw [← hg, Nat.gcd_comm x y, Nat.gcd_rec y x, Nat.gcd_comm]
    · have := Nat.mod_lt x (show y > 0 by omega)
      simp only [intOf]; omega

noncomputable def shP (N : Nat) (ws : List Wr) (S T : Nat) : Int × Int := if trees N ws = 0 then (0, 0) else paceOf (volt N ws S T) (trees N ws)
set_option maxRecDepth 100000 in
theorem share_calls {N S T : Nat} {ws : List Wr} {wv : Value} (w : World) (hw : Wh w) (hN : NetOk N ws) (hwv : Rd 2 wN w wv ws) (hs : S < N) (ht : T < N) (hst : S ≠ T) :
    Calls Tryd.prog 62 #[netV N wv, .int .i64 S, .int .i64 T] w fun e w' => e = .returned (.tuple #[paV (shP N ws S T), .int .i64 (if trees N ws = 0 then 10 else 0)]) ∧ Kp w w' := by
  have hfew := hN.few
  have s1 := trees_small (n := N) hfew
  have s2 := volt_small (n := N) (s := S) (t := T) hfew
  refine lift62 ?_
  unfold S62
  refine r_box fun b3 w1 e3 s3 h3 k1 => ?_
  refine r_box fun b6 w2 e6 s6 h6 k2 => ?_
  have k02 := Kp.trans k1 k2
  have h3' : w1.heap[b3]? = some (.cells #[.int .i64 N, wv] 80 (0, 0)) := h3
  have h6' : w2.heap[b6]? = some (.cells #[.int .i64 0, .int .i64 0] 58 (0, 0)) := h6
  have h32 := block_below h3' k2
  rw [net_box h32]
  refine r_use fok55 (trees_calls w2 (hw.kp k02) hN (hwv.kp k02)) rfl ?_
  rintro _ w3 ⟨rfl, k3⟩
  refine ⟨_, rfl, ?_⟩
  have k03 := Kp.trans k02 k3
  have h33 := block_below h32 k3
  have h63 := block_below h6' k3
  have hsz := k2.size
  unfold shP
  rw [r_eql]
  by_cases hz : trees N ws = 0
  · have hz' : ((trees N ws : Nat) : Int) = 0 := by omega
    rw [decide_eq_true hz', r_condT, bd58_0, if_pos hz, if_pos hz]
    refine st58 h63 fun w4 c4 s4 h4 => ?_
    rw [pace_box h4]
    exact ⟨rfl, Kp.of_chg k03 c4 fun q e => by omega⟩
  · have hz' : ¬ ((trees N ws : Nat) : Int) = 0 := by omega
    rw [decide_eq_false hz', r_condF, if_neg hz, if_neg hz, net_box h33]
    refine r_use fok56 (merged_calls w3 (hw.kp k03) hN (hwv.kp k03) hs ht hst) rfl ?_
    rintro _ w4 ⟨rfl, k4⟩
    refine ⟨_, rfl, ?_⟩
    refine r_use fok78 (pace_calls w4 (by omega) (by omega) (by omega)) rfl ?_
    rintro _ w5 ⟨rfl, k5⟩
    refine ⟨_, rfl, ?_⟩
    refine st58 (block_below h63 (Kp.trans k4 k5)) fun w6 c6 s6 h66 => ?_
    rw [pace_box h66]
    exact ⟨rfl, Kp.of_chg (Kp.trans k03 (Kp.trans k4 k5)) c6 fun q e => by omega⟩

noncomputable def rsP (n : Int) (L : List (Int × Int)) (s t : Int) : Int × Int := if endErr n L s t = 0 then shP n.toNat (L.map natW) s.toNat t.toNat else (0, 0)
set_option maxRecDepth 100000 in
theorem Resist_calls {v : Value} {L : List (Int × Int)} {n s t : Int} (w : World) (hw : Wh w) (hr : RdW w v L) :
    Calls Tryd.prog 36 #[.int .i64 n, v, .int .i64 s, .int .i64 t] w fun e w' => Kp w w' ∧ e = .returned (.tuple #[paV (rsP n L s t), .int .i64 (thE n L s t)]) := by
  obtain ⟨a, cap, ev, _⟩ := hr.len
  refine lift36 ?_
  unfold S36
  refine r_box fun b8 w1 e8 s8 h8 k1 => ?_
  have h8' : w1.heap[b8]? = some (.cells #[.int .i64 0, .int .i64 0] 58 (0, 0)) := h8
  refine r_use fok54 (between_calls (n := n) (s := s) (t := t) w1 (hr.kp k1)) rfl ?_
  rintro _ w2 ⟨k2, rfl⟩
  refine ⟨_, rfl, ?_⟩
  have k02 := Kp.trans k1 k2
  rw [r_ex2a, r_ex2b]
  refine r_box fun b10 w3 e10 s10 h10 k3 => ?_
  have k03 := Kp.trans k02 k3
  have h10' : w3.heap[b10]? = some (.cells #[.int .i64 0, .slice none 0 0] 80 (0, 0)) := h10
  have h83 := block_below h8' (Kp.trans k2 k3)
  have hsz := k2.size
  unfold rsP
  by_cases h0 : endErr n L s t = 0
  case neg =>
    have hE : thE n L s t = endErr n L s t := if_neg h0
    obtain ⟨k, a', m', c', hx⟩ : ∃ k a' m' c', (if netErr n L = 0 then netV n v else netV 0 nilS) = netV k (.slice a' m' c') := by
      split
      · exact ⟨_, _, _, _, by rw [ev]⟩
      · exact ⟨_, _, _, _, rfl⟩
    rw [hx]
    refine st80 h10' fun w4 c4 s4 h4 => ?_
    have k04 : Kp w w4 := Kp.of_chg k03 c4 fun q e => by omega
    rw [r_neq, decide_eq_false h0, Bool.not_false, r_condT, bd58_0, if_neg h0, hE]
    refine st58 (c4.at h83 (by omega)) fun w5 c5 s5 h5 => ?_
    rw [pace_box h5]
    exact ⟨Kp.of_chg k04 c5 fun q e => by omega, rfl⟩
  obtain ⟨hn0, S, T, rfl, rfl, hS, hT, hST⟩ := end_ok h0
  rw [if_pos hn0, ev]
  refine st80 h10' fun w4 c4 s4 h4 => ?_
  have k04 : Kp w w4 := Kp.of_chg k03 c4 fun q e => by omega
  have h84 := c4.at h83 (by omega)
  rw [r_neq, decide_eq_true h0, Bool.not_true, r_condF, if_pos h0]
  obtain ⟨N, rfl, hN, hb⟩ := net_ok hn0
  have hNN : (N : Int).toNat = N := by omega
  have hE : thE N L S T = if trees N (L.map natW) = 0 then 10 else 0 := by unfold thE; rw [if_pos h0, hNN]
  rw [net_box h4, ← ev, hE]
  refine r_use fok62 (share_calls w4 (hw.kp k04) hN (RdW.nat (hr.kp k04) hb) (by omega) (by omega) hST) rfl ?_
  rintro _ w5 ⟨rfl, k5⟩
  refine ⟨_, rfl, ?_⟩
  rw [r_ex2a, r_ex2b]
  refine st58 (block_below h84 k5) fun w6 c6 s6 h6 => ?_
  rw [pace_box h6]
  exact ⟨Kp.of_chg (Kp.trans k04 k5) c6 fun q e => by omega, rfl⟩

/-- Chance's error and fraction. -/
noncomputable def chE (n : Int) (L : List (Int × Int)) (i : Int) : Int := if netErr n L = 0 then (if i < 0 ∨ (L.length : Int) ≤ i then 6 else if trees n.toNat (L.map natW) = 0 then 10 else 0) else netErr n L
noncomputable def chP (n : Int) (L : List (Int × Int)) (i : Int) : Int × Int := if netErr n L = 0 ∧ ¬ (i < 0 ∨ (L.length : Int) ≤ i) then shP n.toNat (L.map natW) ((L.map natW).getD i.toNat (0, 0)).1 ((L.map natW).getD i.toNat (0, 0)).2 else (0, 0)
set_option maxRecDepth 100000 in
set_option maxHeartbeats 1000000 in
theorem Chance_calls {v : Value} {L : List (Int × Int)} {n i : Int} (w : World) (hw : Wh w) (hr : RdW w v L) :
    Calls Tryd.prog 39 #[.int .i64 n, v, .int .i64 i] w fun e w' => Kp w w' ∧ e = .returned (.tuple #[paV (chP n L i), .int .i64 (chE n L i)]) := by
  obtain ⟨a, cap, ev, _⟩ := hr.len
  have lnv : ∀ K : Value → Prop, ln1 v K = K (.int .i64 L.length) := fun K => by rw [ev]; rfl
  refine lift39 ?_
  unfold S39
  refine r_box fun b6 w1 e6 s6 h6 k1 => ?_
  have h6' : w1.heap[b6]? = some (.cells #[.int .i64 0, .int .i64 0] 58 (0, 0)) := h6
  refine r_use fok58 (of_calls (n := n) w1 (hr.kp k1)) rfl ?_
  rintro _ w2 ⟨k2, rfl⟩
  refine ⟨_, rfl, ?_⟩
  have k02 := Kp.trans k1 k2
  rw [r_ex2a, r_ex2b]
  refine r_box fun b8 w3 e8 s8 h8 k3 => ?_
  have k03 := Kp.trans k02 k3
  have h8' : w3.heap[b8]? = some (.cells #[.int .i64 0, .slice none 0 0] 80 (0, 0)) := h8
  have h63 := block_below h6' (Kp.trans k2 k3)
  have hsz := k2.size
  have empty : ∀ (w' : World) (E : Int), Kp w w' → w'.heap[b6]? = some (.cells #[.int .i64 0, .int .i64 0] 58 (0, 0)) → chE n L i = E → chP n L i = (0, 0) →
      bdQ Tryd.prog 58 [] fun t30 => stW Tryd.prog 58 (ptrV b6) t30 w' fun w_1 => ldN 2 w_1 (ptrV b6) fun r => (Kp w w_1 ∧ Ending.returned (Value.tuple #[r, .int .i64 E]) = .returned (.tuple #[paV (chP n L i), .int .i64 (chE n L i)])) := fun w' E k h hE hP => by
    rw [bd58_0, hE, hP]
    refine st58 h fun w5 c5 s5 h5 => ?_
    rw [pace_box h5]
    exact ⟨Kp.of_chg k c5 fun q e => by omega, rfl⟩
  by_cases h0 : netErr n L = 0
  case neg =>
    rw [if_neg h0]
    refine st80 h8' fun w4 c4 s4 h4 => ?_
    have k04 : Kp w w4 := Kp.of_chg k03 c4 fun q e => by omega
    rw [r_neq, decide_eq_false h0, Bool.not_false, r_condT]
    exact empty w4 _ k04 (c4.at h63 (by omega)) (if_neg h0) (if_neg fun h => h0 h.1)
  rw [if_pos h0, ev]
  refine st80 h8' fun w4 c4 s4 h4 => ?_
  have k04 : Kp w w4 := Kp.of_chg k03 c4 fun q e => by omega
  have h64 := c4.at h63 (by omega)
  rw [r_neq, decide_eq_true h0, Bool.not_true, r_condF]
  rw [← ev] at h4 ⊢
  by_cases g1 : i < 0
  · have := empty w4 6 k04 h64 (by unfold chE; rw [if_pos h0, if_pos (.inl g1)]) (if_neg fun h => h.2 (.inl g1))
    simp (disch := omega) only [r_ln, r_pick, r_pickT, r_pickF, r_condT, r_condF, r_gdTT, r_gdFF, r_gdTF, r_gdFT, r_gqTT, r_gqFF, r_gqTF, r_gqFT, r_not, r_lss, r_leq, r_gtr, r_geq, r_eql, r_neq, r_add, r_sub, r_min2, r_max2, r_min3, r_max3, r_fa, r_iaS, r_iaA, r_ex2a, r_ex2b, r_ex3a, r_ex3b, r_ex3c, r_nc, r_keepE, Nat.zero_add, Nat.add_zero, Nat.mul_one, Int.toNat_natCast, toNat_sub1, toNat_add1, decide_true, decide_false, Bool.not_true, Bool.not_false, if_true, if_false, Bool.false_eq_true, reduceCtorEq, r_gdU, decide_eq_true g1]
    exact this
  by_cases g2 : (L.length : Int) ≤ i
  · have := empty w4 6 k04 h64 (by unfold chE; rw [if_pos h0, if_pos (.inr g2)]) (if_neg fun h => h.2 (.inr g2))
    simp (disch := omega) only [r_ln, r_pick, r_pickT, r_pickF, r_condT, r_condF, r_gdTT, r_gdFF, r_gdTF, r_gdFT, r_gqTT, r_gqFF, r_gqTF, r_gqFT, r_not, r_lss, r_leq, r_gtr, r_geq, r_eql, r_neq, r_add, r_sub, r_min2, r_max2, r_min3, r_max3, r_fa, r_iaS, r_iaA, r_ex2a, r_ex2b, r_ex3a, r_ex3b, r_ex3c, r_nc, r_keepE, Nat.zero_add, Nat.add_zero, Nat.mul_one, Int.toNat_natCast, toNat_sub1, toNat_add1, decide_true, decide_false, Bool.not_true, Bool.not_false, if_true, if_false, Bool.false_eq_true, reduceCtorEq, r_gdU, g1, lnv, decide_eq_true g2]
    exact this
  obtain ⟨N, rfl, hN, hb⟩ := net_ok h0
  obtain ⟨I, rfl⟩ : ∃ I : Nat, i = I := ⟨i.toNat, by omega⟩
  have hII : (I : Int).toNat = I := by omega
  have hNN : (N : Int).toNat = N := by omega
  have hE : chE N L I = if trees N (L.map natW) = 0 then 10 else 0 := by unfold chE; rw [if_pos h0, if_neg (by omega), hNN]
  have hP : chP N L I = shP N (L.map natW) ((L.map natW).getD I (0, 0)).1 ((L.map natW).getD I (0, 0)).2 := by unfold chP; rw [if_pos ⟨h0, by omega⟩, hNN, hII]
  rw [hE, hP]
  have hI : I < L.length := by omega
  have hmem : (L.map natW).getD I (0, 0) ∈ L.map natW := getD_mem (by rw [List.length_map]; exact hI)
  obtain ⟨hA, hB, hne⟩ := hN.wf _ hmem
  simp (disch := omega) only [r_ln, r_pick, r_pickT, r_pickF, r_condT, r_condF, r_gdTT, r_gdFF, r_gdTF, r_gdFT, r_gqTT, r_gqFF, r_gqTF, r_gqFT, r_not, r_lss, r_leq, r_gtr, r_geq, r_eql, r_neq, r_add, r_sub, r_min2, r_max2, r_min3, r_max3, r_fa, r_iaS, r_iaA, r_ex2a, r_ex2b, r_ex3a, r_ex3b, r_ex3c, r_nc, r_keepE, Nat.zero_add, Nat.add_zero, Nat.mul_one, Int.toNat_natCast, toNat_sub1, toNat_add1, decide_true, decide_false, Bool.not_true, Bool.not_false, if_true, if_false, Bool.false_eq_true, reduceCtorEq, r_gdU, g1, g2, lnv]
  refine r_drew fun w5 k5 _ => ?_
  have k05 := Kp.trans k04 k5
  have hwv := RdW.nat (hr.kp k05) hb
  obtain ⟨b, off, cap', ev', _, hc⟩ := hwv.at (List.getElem?_eq_getElem (by rw [List.length_map]; exact hI) : (L.map natW)[I]? = some _)
  have ia : ∀ K : Value → Prop, iaS 2 v (.int .i64 I) K = K (.pointer (some ⟨b, off + I * 2, none⟩)) := fun K => by
    rw [ev', r_iaS _ _ _ _ _ _ _ (by omega) (by rw [List.length_map]; omega), hII]
  rw [← getD_lt _ _ (0, 0) (by rw [List.length_map]; exact hI)] at hc
  have c0 := hc 0 _ rfl
  have c1 := hc 1 _ rfl
  rw [net_box (block_below h4 k5), ia, r_fa, r_ld c0, ia, r_fa, r_ld c1]
  refine r_use fok62 (share_calls w5 (hw.kp k05) hN hwv hA hB hne) rfl ?_
  rintro _ w6 ⟨rfl, k6⟩
  refine ⟨_, rfl, ?_⟩
  rw [r_ex2a, r_ex2b]
  refine st58 (block_below h64 (Kp.trans k5 k6)) fun w7 c7 s7 h7 => ?_
  rw [pace_box h7]
  exact ⟨Kp.of_chg (Kp.trans k05 k6) c7 fun q e => by omega, rfl⟩

end Go.Proofs.YtkdcldbedbagjaaDoor

/- Lifted text of a constant list of squares, tied by the kernel. -/
namespace Go.Proofs.YtkdcldbedbagjaaDoor
open Go.Lf Go.RowKit
def S41 (w : World) (R : Ending → World → Prop) : Prop :=
  bdQ Tryd.prog 44 [(0, (.int .i64 0)), (1, (.int .i64 0)), (2, (.int .i64 18))] fun t1 =>
  bdQ Tryd.prog 44 [(0, (.int .i64 18)), (1, (.int .i64 0)), (2, (.int .i64 15))] fun t2 =>
  bdQ Tryd.prog 44 [(0, (.int .i64 18)), (1, (.int .i64 15)), (2, (.int .i64 7))] fun t3 =>
  bdQ Tryd.prog 44 [(0, (.int .i64 25)), (1, (.int .i64 15)), (2, (.int .i64 8))] fun t4 =>
  bdQ Tryd.prog 44 [(0, (.int .i64 0)), (1, (.int .i64 18)), (2, (.int .i64 14))] fun t5 =>
  bdQ Tryd.prog 44 [(0, (.int .i64 14)), (1, (.int .i64 18)), (2, (.int .i64 4))] fun t6 =>
  bdQ Tryd.prog 44 [(0, (.int .i64 14)), (1, (.int .i64 22)), (2, (.int .i64 10))] fun t7 =>
  bdQ Tryd.prog 44 [(0, (.int .i64 24)), (1, (.int .i64 22)), (2, (.int .i64 1))] fun t8 =>
  bdQ Tryd.prog 44 [(0, (.int .i64 24)), (1, (.int .i64 23)), (2, (.int .i64 9))] fun t9 =>
  bsW Tryd.prog 22 9 [(0, t1), (1, t2), (2, t3), (3, t4), (4, t5), (5, t6), (6, t7), (7, t8), (8, t9)] w fun t10 w =>
  R (.returned t10) w

def A41 : Ann where
  live := fun _ => []
  wr := fun _ _ => false
  sched := fun _ => .done
set_option maxRecDepth 100000 in
theorem ok41 : (codeOk Tryd.f41.ntmps A41 (Tryd.f41.body.getD .skip) 0 && Nat.ble (#[] : Array Value).size Tryd.f41.ntmps) = true := by kernel_rfl
set_option maxRecDepth 100000 in
theorem tie41 (w : World) (R : Ending → World → Prop) : (S41 w R) = cw Tryd.prog A41 (Tryd.f41.body.getD .skip) 0 (bodyQ Tryd.prog Tryd.f41 R) (frOf #[]) w := by kernel_rfl
theorem body41 : Tryd.f41.body = some (Tryd.f41.body.getD .skip) := by kernel_rfl
/-- A call, the lifted text's tie given as an equation. -/
theorem calls_of_eq {P : Program} {f : FuncId} {fn : Func} {c : Code} {args : Array Value} {w : World} {R : Ending → World → Prop} {S : Prop} (A : Ann) (hf : P.funcs[f]? = some fn) (hb : fn.body = some c) (hmix : P.follows .mixedOrders = true) (hok : (codeOk fn.ntmps A c 0 && Nat.ble args.size fn.ntmps) = true)
    (e : S = cw P A c 0 (bodyQ P fn R) (frOf args) w) (h : S) : Calls P f args w R := calls_of_cw A hmix hf hb hok (e ▸ h)
set_option maxRecDepth 100000 in
theorem lift41 {w : World} {R : Ending → World → Prop} (h : S41 w R) : Calls Tryd.prog 41 #[] w R :=
  calls_of_eq A41 Tryd.func41 body41 mixes ok41 (tie41 w R) h
theorem fok41 : fnOk Tryd.prog 41 = true := by kernel_rfl

end Go.Proofs.YtkdcldbedbagjaaDoor

/- Lifted texts, printed by program (gen.py): what each function's code asks. The ties are by the kernel. -/
namespace Go.Proofs.YtkdcldbedbagjaaDoor
open Go.Lf Go.RowKit

def S14 (w : World) (R : Ending → World → Prop) : Prop :=
  bdQ Tryd.prog 40 [(0, (.int .i64 0)), (1, (.int .i64 1))] fun t9 =>
  bdQ Tryd.prog 40 [(0, (.int .i64 1)), (1, (.int .i64 2))] fun t10 =>
  bdQ Tryd.prog 40 [(0, (.int .i64 2)), (1, (.int .i64 0))] fun t11 =>
  bsW Tryd.prog 27 3 [(0, t9), (1, t10), (2, t11)] w fun t12 w =>
  callW Tryd.prog (.func (.func 24) #[] #[]) [(.int .i64 3), t12] w fun t15 w =>
  exQ t15 0 fun t16 =>
  exQ t15 1 fun t17 =>
  callW Tryd.prog (.func (.func 22) #[] #[]) [(.int .i64 3), t12, (.int .i64 0), (.int .i64 1)] w fun t20 w =>
  exQ t20 0 fun t21 =>
  exQ t20 1 fun t22 =>
  boxW 36 (.agg #[(.slice none 0 0), (.int .i64 0), (.int .i64 0)]) w fun t4 w =>
  stW Tryd.prog 36 t4 t21 w fun w =>
  callW Tryd.prog (.func (.func 41) #[] #[]) [] w fun t24 w =>
  callW Tryd.prog (.func (.func 17) #[] #[]) [(.int .i64 33), (.int .i64 32), t24] w fun t25 w =>
  exQ t25 0 fun t26 =>
  exQ t25 1 fun t27 =>
  exQ t25 2 fun t28 =>
  binQ Tryd.prog w .eql 24 true t17 (.int .i64 0) fun t30 =>
  gd t30 true (fun k => k t16 w) w fun t32 w =>
  gd t30 true (fun k => binQ Tryd.prog w .eql 3 true t32 (.int .i64 3) fun v => k v w) w fun t33 w =>
  pickQ t30 t33 (.bool false) fun t34 =>
  gd t34 true (fun k => k t22 w) w fun t36 w =>
  gd t34 true (fun k => binQ Tryd.prog w .eql 24 true t36 (.int .i64 0) fun v => k v w) w fun t37 w =>
  pickQ t34 t37 (.bool false) fun t38 =>
  gd t38 true (fun k => fa1 t4 0 fun v => k v w) w fun t40 w =>
  gd t38 true (fun k => ld1 w t40 fun v => k v w) w fun t41 w =>
  gd t38 true (fun k => bsW Tryd.prog 34 3 [(0, (.int .i64 2)), (1, (.int .i64 (-1))), (2, (.int .i64 (-1)))] w k) w fun t42 w =>
  gd t38 true (fun k => callW Tryd.prog (.func (.func 29) #[] #[]) [t41, t42] w k) w fun t43 w =>
  pickQ t38 t43 (.bool false) fun t44 =>
  gd t44 true (fun k => fa1 t4 2 fun v => k v w) w fun t46 w =>
  gd t44 true (fun k => ld1 w t46 fun v => k v w) w fun t47 w =>
  gd t44 true (fun k => binQ Tryd.prog w .eql 3 true t47 (.int .i64 2) fun v => k v w) w fun t48 w =>
  pickQ t44 t48 (.bool false) fun t49 =>
  gd t49 true (fun k => k t28 w) w fun t51 w =>
  gd t49 true (fun k => binQ Tryd.prog w .eql 24 true t51 (.int .i64 0) fun v => k v w) w fun t52 w =>
  pickQ t49 t52 (.bool false) fun t53 =>
  gd t53 true (fun k => k t26 w) w fun t55 w =>
  gd t53 true (fun k => binQ Tryd.prog w .eql 3 true t55 (.int .i64 6) fun v => k v w) w fun t56 w =>
  pickQ t53 t56 (.bool false) fun t57 =>
  gd t57 true (fun k => k t27 w) w fun t59 w =>
  gd t57 true (fun k => ln1 t59 fun v => k v w) w fun t60 w =>
  gd t57 true (fun k => binQ Tryd.prog w .eql 3 true t60 (.int .i64 9) fun v => k v w) w fun t61 w =>
  pickQ t57 t61 (.bool false) fun t62 =>
  R (.returned t62) w

def A14 : Ann where
  live := fun _ => []
  wr := fun _ _ => false
  sched := fun _ => .done

set_option maxRecDepth 100000 in
theorem ok14 : (codeOk Tryd.f14.ntmps A14 (Tryd.f14.body.getD .skip) 0 && Nat.ble 0 Tryd.f14.ntmps) = true := by kernel_rfl
set_option maxRecDepth 100000 in
theorem lift14 {w : World} {R : Ending → World → Prop} (h : S14 w R) : Calls Tryd.prog 14 #[] w R :=
  calls_of_cw (fn := Tryd.f14) (c := Tryd.f14.body.getD .skip) A14 mixes Tryd.func14 (by kernel_rfl) ok14
    ((by kernel_rfl : (S14 w R) = cw Tryd.prog A14 (Tryd.f14.body.getD .skip) 0 (bodyQ Tryd.prog Tryd.f14 R) (frOf #[]) w).mp h)

def S29L0 (t0 t1 : Value) (R : Ending → World → Prop) (w : World) : Prop :=
  Loop1 (.int .i64 0) w fun _ t5 w next =>
    ln1 t0 fun t13 =>
    binQ Tryd.prog w .lss 3 false t5 t13 fun t14 =>
    condW t14 (
      Drew w fun w =>
      iaS 1 t0 t5 fun t19 =>
      ld1 w t19 fun t20 =>
      iaS 1 t1 t5 fun t23 =>
      ld1 w t23 fun t24 =>
      binQ Tryd.prog w .neq 3 false t20 t24 fun t25 =>
      condW t25 (
        R (.returned (.bool false)) w
      ) (
        binQ Tryd.prog w .add 3 true t5 (.int .i64 1) fun t16 =>
        next t16 w
      )
    ) (
      R (.returned (.bool true)) w
    )

def S29 (t0 t1 : Value) (w : World) (R : Ending → World → Prop) : Prop :=
  ln1 t0 fun t7 =>
  ln1 t1 fun t9 =>
  binQ Tryd.prog w .neq 3 false t7 t9 fun t10 =>
  condW t10 (
    R (.returned (.bool false)) w
  ) (
    S29L0 t0 t1 R w
  )

def A29 : Ann where
  live := fun
    | 0 => [5]
    | _ => []
  wr := fun
    | 0 => fun i => (Nat.ble 4 i && Nat.ble i 5) || (Nat.ble 11 i && Nat.ble i 25)
    | _ => fun _ => false
  sched := fun
    | 6 => (.take 0 (.take 1 (.take 2 (.take 3 (.take 4 (.take 5 (.take 6 (.take 7 (.take 8 .done)))))))))
    | _ => .done

set_option maxRecDepth 100000 in
theorem ok29 : (codeOk Tryd.f29.ntmps A29 (Tryd.f29.body.getD .skip) 0 && Nat.ble 2 Tryd.f29.ntmps) = true := by kernel_rfl
set_option maxRecDepth 100000 in
theorem lift29 {t0 t1 : Value} {w : World} {R : Ending → World → Prop} (h : S29 t0 t1 w R) : Calls Tryd.prog 29 #[t0, t1] w R :=
  calls_of_cw (fn := Tryd.f29) (c := Tryd.f29.body.getD .skip) A29 mixes Tryd.func29 (by kernel_rfl) ok29
    ((by kernel_rfl : (S29 t0 t1 w R) = cw Tryd.prog A29 (Tryd.f29.body.getD .skip) 0 (bodyQ Tryd.prog Tryd.f29 R) (frOf #[t0, t1]) w).mp h)

def S19L0 (t0 t1 : Value) (R : Ending → World → Prop) (w : World) : Prop :=
  Loop1 (.int .i64 0) w fun _ t5 w next =>
    ln1 t0 fun t13 =>
    binQ Tryd.prog w .lss 3 false t5 t13 fun t14 =>
    condW t14 (
      Drew w fun w =>
      iaS 2 t0 t5 fun t19 =>
      ldN 2 w t19 fun t20 =>
      iaS 2 t1 t5 fun t23 =>
      ldN 2 w t23 fun t24 =>
      binQ Tryd.prog w .neq 40 false t20 t24 fun t25 =>
      condW t25 (
        R (.returned (.bool false)) w
      ) (
        binQ Tryd.prog w .add 3 true t5 (.int .i64 1) fun t16 =>
        next t16 w
      )
    ) (
      R (.returned (.bool true)) w
    )

def S19 (t0 t1 : Value) (w : World) (R : Ending → World → Prop) : Prop :=
  ln1 t0 fun t7 =>
  ln1 t1 fun t9 =>
  binQ Tryd.prog w .neq 3 false t7 t9 fun t10 =>
  condW t10 (
    R (.returned (.bool false)) w
  ) (
    S19L0 t0 t1 R w
  )

def A19 : Ann where
  live := fun
    | 0 => [5]
    | _ => []
  wr := fun
    | 0 => fun i => (Nat.ble 4 i && Nat.ble i 5) || (Nat.ble 11 i && Nat.ble i 25)
    | _ => fun _ => false
  sched := fun
    | 6 => (.take 0 (.take 1 (.take 2 (.take 3 (.take 4 (.take 5 (.take 6 (.take 7 (.take 8 .done)))))))))
    | _ => .done

set_option maxRecDepth 100000 in
theorem ok19 : (codeOk Tryd.f19.ntmps A19 (Tryd.f19.body.getD .skip) 0 && Nat.ble 2 Tryd.f19.ntmps) = true := by kernel_rfl
set_option maxRecDepth 100000 in
theorem lift19 {t0 t1 : Value} {w : World} {R : Ending → World → Prop} (h : S19 t0 t1 w R) : Calls Tryd.prog 19 #[t0, t1] w R :=
  calls_of_cw (fn := Tryd.f19) (c := Tryd.f19.body.getD .skip) A19 mixes Tryd.func19 (by kernel_rfl) ok19
    ((by kernel_rfl : (S19 t0 t1 w R) = cw Tryd.prog A19 (Tryd.f19.body.getD .skip) 0 (bodyQ Tryd.prog Tryd.f19 R) (frOf #[t0, t1]) w).mp h)

def S20L0 (t0 t1 : Value) (R : Ending → World → Prop) (w : World) : Prop :=
  Loop1 (.int .i64 0) w fun _ t5 w next =>
    ln1 t0 fun t13 =>
    binQ Tryd.prog w .lss 3 false t5 t13 fun t14 =>
    condW t14 (
      Drew w fun w =>
      iaS 3 t0 t5 fun t19 =>
      ldN 3 w t19 fun t20 =>
      iaS 3 t1 t5 fun t23 =>
      ldN 3 w t23 fun t24 =>
      binQ Tryd.prog w .neq 44 false t20 t24 fun t25 =>
      condW t25 (
        R (.returned (.bool false)) w
      ) (
        binQ Tryd.prog w .add 3 true t5 (.int .i64 1) fun t16 =>
        next t16 w
      )
    ) (
      R (.returned (.bool true)) w
    )

def S20 (t0 t1 : Value) (w : World) (R : Ending → World → Prop) : Prop :=
  ln1 t0 fun t7 =>
  ln1 t1 fun t9 =>
  binQ Tryd.prog w .neq 3 false t7 t9 fun t10 =>
  condW t10 (
    R (.returned (.bool false)) w
  ) (
    S20L0 t0 t1 R w
  )

def A20 : Ann where
  live := fun
    | 0 => [5]
    | _ => []
  wr := fun
    | 0 => fun i => (Nat.ble 4 i && Nat.ble i 5) || (Nat.ble 11 i && Nat.ble i 25)
    | _ => fun _ => false
  sched := fun
    | 6 => (.take 0 (.take 1 (.take 2 (.take 3 (.take 4 (.take 5 (.take 6 (.take 7 (.take 8 .done)))))))))
    | _ => .done

set_option maxRecDepth 100000 in
theorem ok20 : (codeOk Tryd.f20.ntmps A20 (Tryd.f20.body.getD .skip) 0 && Nat.ble 2 Tryd.f20.ntmps) = true := by kernel_rfl
set_option maxRecDepth 100000 in
theorem lift20 {t0 t1 : Value} {w : World} {R : Ending → World → Prop} (h : S20 t0 t1 w R) : Calls Tryd.prog 20 #[t0, t1] w R :=
  calls_of_cw (fn := Tryd.f20) (c := Tryd.f20.body.getD .skip) A20 mixes Tryd.func20 (by kernel_rfl) ok20
    ((by kernel_rfl : (S20 t0 t1 w R) = cw Tryd.prog A20 (Tryd.f20.body.getD .skip) 0 (bodyQ Tryd.prog Tryd.f20 R) (frOf #[t0, t1]) w).mp h)

def S21 (t0 : Value) (w : World) (R : Ending → World → Prop) : Prop :=
  ln1 t0 fun t4 =>
  binQ Tryd.prog w .leq 3 true t4 (.int .i64 40) fun t5 =>
  R (.returned t5) w

def A21 : Ann where
  live := fun _ => []
  wr := fun _ _ => false
  sched := fun _ => .done

set_option maxRecDepth 100000 in
theorem ok21 : (codeOk Tryd.f21.ntmps A21 (Tryd.f21.body.getD .skip) 0 && Nat.ble 1 Tryd.f21.ntmps) = true := by kernel_rfl
set_option maxRecDepth 100000 in
theorem lift21 {t0 : Value} {w : World} {R : Ending → World → Prop} (h : S21 t0 w R) : Calls Tryd.prog 21 #[t0] w R :=
  calls_of_cw (fn := Tryd.f21) (c := Tryd.f21.body.getD .skip) A21 mixes Tryd.func21 (by kernel_rfl) ok21
    ((by kernel_rfl : (S21 t0 w R) = cw Tryd.prog A21 (Tryd.f21.body.getD .skip) 0 (bodyQ Tryd.prog Tryd.f21 R) (frOf #[t0]) w).mp h)

def S23L1 (t1 t7 t11 t12 t13 : Value) (next : Value → World → Prop) (w : World) : Prop :=
  Loop1 (.int .i64 0) w fun _ t14 w next_2 =>
    ln1 t1 fun t32 =>
    binQ Tryd.prog w .lss 3 false t14 t32 fun t33 =>
    condW t33 (
      Drew w fun w =>
      iaS 2 t1 t14 fun t38 =>
      fa1 t38 0 fun t39 =>
      ld1 w t39 fun t40 =>
      iaS 2 t1 t14 fun t43 =>
      fa1 t43 1 fun t44 =>
      ld1 w t44 fun t45 =>
      iaS 1 t12 t40 fun t48 =>
      ld1 w t48 fun t49 =>
      gd t49 true (fun k => k t12 w) w fun t51 w =>
      gd t49 true (fun k => k t45 w) w fun t52 w =>
      gd t49 true (fun k => iaS 1 t51 t52 fun v => k v w) w fun t53 w =>
      gd t49 true (fun k => ld1 w t53 fun v => k v w) w fun t54 w =>
      gd t49 true (fun k => unQ .not t54 fun v => k v w) w fun t55 w =>
      pickQ t49 t55 (.bool false) fun t56 =>
      Join (fun (k_4 : World → Prop) =>
        condW t56 (
          Drew w fun w =>
          iaS 1 t11 t40 fun t61 =>
          ld1 w t61 fun t62 =>
          fa1 t7 0 fun t63 =>
          ld1 w t63 fun t64 =>
          iaS 1 t64 t14 fun t66 =>
          ld1 w t66 fun t67 =>
          binQ Tryd.prog w .sub 3 false t62 t67 fun t68 =>
          iaS 1 t11 t45 fun t69 =>
          stW Tryd.prog 3 t69 t68 w fun w =>
          iaS 1 t12 t45 fun t72 =>
          stW Tryd.prog 4 t72 (.bool true) w fun w =>
          k_4 w
        ) (
          k_4 w
        )
      ) fun w =>
      iaS 1 t12 t45 fun t75_2 =>
      ld1 w t75_2 fun t76_2 =>
      gd t76_2 true (fun k => k t12 w) w fun t78_2 w =>
      gd t76_2 true (fun k => k t40 w) w fun t79_2 w =>
      gd t76_2 true (fun k => iaS 1 t78_2 t79_2 fun v => k v w) w fun t80_2 w =>
      gd t76_2 true (fun k => ld1 w t80_2 fun v => k v w) w fun t81_2 w =>
      gd t76_2 true (fun k => unQ .not t81_2 fun v => k v w) w fun t82_2 w =>
      pickQ t76_2 t82_2 (.bool false) fun t83_2 =>
      Join (fun (k_5 : World → Prop) =>
        condW t83_2 (
          Drew w fun w =>
          iaS 1 t11 t45 fun t88_2 =>
          ld1 w t88_2 fun t89_2 =>
          fa1 t7 0 fun t90_2 =>
          ld1 w t90_2 fun t91_2 =>
          iaS 1 t91_2 t14 fun t93_2 =>
          ld1 w t93_2 fun t94_2 =>
          binQ Tryd.prog w .add 3 false t89_2 t94_2 fun t95_2 =>
          iaS 1 t11 t40 fun t96_2 =>
          stW Tryd.prog 3 t96_2 t95_2 w fun w =>
          iaS 1 t12 t40 fun t99_2 =>
          stW Tryd.prog 4 t99_2 (.bool true) w fun w =>
          k_5 w
        ) (
          k_5 w
        )
      ) fun w =>
      binQ Tryd.prog w .add 3 true t14 (.int .i64 1) fun t35_4 =>
      next_2 t35_4 w
    ) (
      binQ Tryd.prog w .add 3 true t13 (.int .i64 1) fun t29 =>
      next t29 w
    )

def S23L2 (t1 t3 t7 t11 t12 : Value) (R : Ending → World → Prop) (w : World) : Prop :=
  Loop1 (.int .i64 0) w fun _ t17 w next_3 =>
    ln1 t1 fun t102 =>
    binQ Tryd.prog w .lss 3 false t17 t102 fun t103 =>
    condW t103 (
      Drew w fun w =>
      iaS 2 t1 t17 fun t109 =>
      fa1 t109 0 fun t110 =>
      ld1 w t110 fun t111 =>
      iaS 1 t11 t111 fun t112 =>
      ld1 w t112 fun t113 =>
      iaS 2 t1 t17 fun t117 =>
      fa1 t117 1 fun t118 =>
      ld1 w t118 fun t119 =>
      iaS 1 t11 t119 fun t120 =>
      ld1 w t120 fun t121 =>
      binQ Tryd.prog w .sub 3 false t113 t121 fun t122 =>
      fa1 t7 0 fun t123 =>
      ld1 w t123 fun t124 =>
      iaS 1 t124 t17 fun t126 =>
      ld1 w t126 fun t127 =>
      binQ Tryd.prog w .neq 3 false t122 t127 fun t128 =>
      condW t128 (
        R (.returned (.bool false)) w
      ) (
        binQ Tryd.prog w .add 3 true t17 (.int .i64 1) fun t105 =>
        next_3 t105 w
      )
    ) (
      Drew w fun w =>
      iaS 1 t12 t3 fun t131 =>
      ld1 w t131 fun t132 =>
      gdQ t132 true (fun k => k t11) fun t134 =>
      gdQ t132 true (fun k => k t3) fun t135 =>
      gdQ t132 true (fun k => iaS 1 t134 t135 k) fun t136 =>
      gdQ t132 true (fun k => ld1 w t136 k) fun t137 =>
      gdQ t132 true (fun k => fa1 t7 2 k) fun t138 =>
      gdQ t132 true (fun k => ld1 w t138 k) fun t139 =>
      gdQ t132 true (fun k => binQ Tryd.prog w .eql 3 false t137 t139 k) fun t140 =>
      pickQ t132 t140 (.bool false) fun t141 =>
      R (.returned t141) w
    )

def S23L0 (t0 t1 t3 t7 t11 t12 : Value) (R : Ending → World → Prop) (w : World) : Prop :=
  Loop1 (.int .i64 0) w fun _ t13 w next =>
    binQ Tryd.prog w .lss 3 false t13 t0 fun t27 =>
    condW t27 (
      S23L1 t1 t7 t11 t12 t13 next w
    ) (
      S23L2 t1 t3 t7 t11 t12 R w
    )



def S23 (t0 t1 t2 t3 t4 : Value) (w : World) (R : Ending → World → Prop) : Prop :=
  boxW 36 t2 w fun t7 w =>
  Drew w fun w =>
  Join (fun (k_2 : Value → Value → World → Prop) =>
    And (
      mkW Tryd.prog 34 t0 t0 w <| keepB w fun t19 w =>
      mkW Tryd.prog 85 t0 t0 w <| keepB w fun t21 w =>
      k_2 t19 t21 w
    ) <|
    And (
      mkW Tryd.prog 85 t0 t0 w <| keepB w fun t21_2 w =>
      mkW Tryd.prog 34 t0 t0 w <| keepB w fun t19_2 w =>
      k_2 t19_2 t21_2 w
    ) <|
    True
  ) fun t11 t12 w =>
  iaS 1 t12 t4 fun t24 =>
  stW Tryd.prog 4 t24 (.bool true) w fun w =>
  S23L0 t0 t1 t3 t7 t11 t12 R w

def A23 : Ann where
  live := fun
    | 0 => [13]
    | 2 => [14]
    | 4 => [17]
    | _ => []
  wr := fun
    | 0 => fun i => (Nat.ble 13 i && Nat.ble i 16) || (Nat.ble 25 i && Nat.ble i 99)
    | 2 => fun i => (Nat.ble 14 i && Nat.ble i 16) || (Nat.ble 30 i && Nat.ble i 99)
    | 4 => fun i => Nat.beq i 10 || Nat.beq i 17 || (Nat.ble 100 i && Nat.ble i 128)
    | _ => fun _ => false
  sched := fun
    | 1 => (.take 0 (.take 2 (.alt 1 (.take 4 (.eff 3 (.take 5 .done))) (.alt 3 (.eff 1 (.take 4 (.take 5 .done))) .nomore))))
    | 9 => (.take 0 (.take 1 (.take 2 (.take 3 (.take 4 (.take 5 (.take 6 (.take 7 (.take 8 (.take 9 (.take 10 (.take 11 .done))))))))))))
    | 11 => (.take 0 (.take 1 (.take 2 (.take 3 (.take 4 (.take 5 (.take 6 (.take 7 (.take 8 (.take 9 (.take 10 (.take 11 (.take 12 (.bar 13 .done))))))))))))))
    | 14 => (.take 0 (.take 1 (.take 2 (.take 3 (.take 4 (.take 5 (.take 6 (.take 7 (.take 8 (.take 9 (.take 10 (.take 11 (.take 12 (.bar 13 .done))))))))))))))
    | 19 => (.take 0 (.take 1 (.take 2 (.take 3 (.take 4 (.take 5 (.take 6 (.take 7 (.take 8 (.take 9 (.take 10 (.take 11 (.take 12 (.take 13 (.take 14 (.take 15 (.take 16 (.take 17 (.take 18 (.take 19 (.take 20 (.take 21 (.take 22 .done)))))))))))))))))))))))
    | 21 => (.take 0 (.take 1 (.take 2 (.take 3 (.take 4 (.take 5 (.take 6 (.take 7 (.take 8 (.take 9 (.take 10 (.take 11 (.take 12 (.take 13 .done))))))))))))))
    | _ => .done

set_option maxRecDepth 100000 in
theorem ok23 : (codeOk Tryd.f23.ntmps A23 (Tryd.f23.body.getD .skip) 0 && Nat.ble 5 Tryd.f23.ntmps) = true := by kernel_rfl
set_option maxRecDepth 100000 in
theorem lift23 {t0 t1 t2 t3 t4 : Value} {w : World} {R : Ending → World → Prop} (h : S23 t0 t1 t2 t3 t4 w R) : Calls Tryd.prog 23 #[t0, t1, t2, t3, t4] w R :=
  calls_of_cw (fn := Tryd.f23) (c := Tryd.f23.body.getD .skip) A23 mixes Tryd.func23 (by kernel_rfl) ok23
    ((by kernel_rfl : (S23 t0 t1 t2 t3 t4 w R) = cw Tryd.prog A23 (Tryd.f23.body.getD .skip) 0 (bodyQ Tryd.prog Tryd.f23 R) (frOf #[t0, t1, t2, t3, t4]) w).mp h)

def S4L1 (t0 t1 t2 t3 t9 t14 t79 : Value) (R : Ending → World → Prop) (w : World) : Prop :=
  Loop1 (.int .i64 0) w fun _ t16 w next_2 =>
    binQ Tryd.prog w .lss 3 false t16 t0 fun t143 =>
    condW t143 (
      binQ Tryd.prog w .neq 3 false t16 t2 fun t148 =>
      gd t148 true (fun k => k t16 w) w fun t150 w =>
      gd t148 true (fun k => k t3 w) w fun t151 w =>
      gd t148 true (fun k => binQ Tryd.prog w .neq 3 false t150 t151 fun v => k v w) w fun t152 w =>
      pickQ t148 t152 (.bool false) fun t153 =>
      gd t153 true (fun k => k t79 w) w fun t155 w =>
      gd t153 true (fun k => k t16 w) w fun t156 w =>
      gd t153 true (fun k => iaS 1 t155 t156 fun v => k v w) w fun t157 w =>
      gd t153 true (fun k => ld1 w t157 fun v => k v w) w fun t158 w =>
      gd t153 true (fun k => binQ Tryd.prog w .neq 3 true t158 (.int .i64 0) fun v => k v w) w fun t159 w =>
      pickQ t153 t159 (.bool false) fun t160 =>
      condW t160 (
        R (.returned (.bool false)) w
      ) (
        binQ Tryd.prog w .add 3 true t16 (.int .i64 1) fun t145 =>
        next_2 t145 w
      )
    ) (
      Drew w fun w =>
      iaS 1 t79 t2 fun t163 =>
      ld1 w t163 fun t164 =>
      fa1 t9 1 fun t165 =>
      ld1 w t165 fun t166 =>
      binQ Tryd.prog w .eql 3 false t164 t166 fun t167 =>
      gdQ t167 true (fun k => k t79) fun t169 =>
      gdQ t167 true (fun k => k t3) fun t170 =>
      gdQ t167 true (fun k => iaS 1 t169 t170 k) fun t171 =>
      gdQ t167 true (fun k => ld1 w t171 k) fun t172 =>
      gdQ t167 true (fun k => fa1 t9 1 k) fun t173 =>
      gdQ t167 true (fun k => ld1 w t173 k) fun t174 =>
      gdQ t167 true (fun k => unQ .neg t174 k) fun t175 =>
      gdQ t167 true (fun k => binQ Tryd.prog w .eql 3 false t172 t175 k) fun t176 =>
      pickQ t167 t176 (.bool false) fun t177 =>
      gdQ t177 true (fun k => k t14) fun t179 =>
      gdQ t177 true (fun k => fa1 t9 1 k) fun t180 =>
      gdQ t177 true (fun k => ld1 w t180 k) fun t181 =>
      gdQ t177 true (fun k => fa1 t9 2 k) fun t182 =>
      gdQ t177 true (fun k => ld1 w t182 k) fun t183 =>
      gdQ t177 true (fun k => binQ Tryd.prog w .mul 3 false t181 t183 k) fun t184 =>
      gdQ t177 true (fun k => binQ Tryd.prog w .eql 3 false t179 t184 k) fun t185 =>
      pickQ t177 t185 (.bool false) fun t186 =>
      gdQ t186 true (fun k => k t0) fun t188 =>
      gdQ t186 true (fun k => k t1) fun t189 =>
      gdQ t186 true (fun k => ldN 3 w t9 k) fun t190 =>
      gdQ t186 true (fun k => k t2) fun t191 =>
      gdQ t186 true (fun k => k t3) fun t192 =>
      gd t186 true (fun k => callW Tryd.prog (.func (.func 23) #[] #[]) [t188, t189, t190, t191, t192] w k) w <| keepB w fun t193 w =>
      pickQ t186 t193 (.bool false) fun t194 =>
      gd t194 true (fun k => callW Tryd.prog (.func (.func 14) #[] #[]) [] w k) w <| keepB w fun t196 w =>
      pickQ t194 t196 (.bool false) fun t197 =>
      R (.returned t197) w
    )

def S4L0 (t0 t1 t2 t3 t9 t11 t79 : Value) (R : Ending → World → Prop) (w : World) : Prop :=
  Loop2 (.int .i64 0) (.int .i64 0) w fun _ t14 t15 w next =>
    ln1 t1 fun t82 =>
    binQ Tryd.prog w .lss 3 false t15 t82 fun t83 =>
    condW t83 (
      Drew w fun w =>
      iaS 2 t1 t15 fun t89 =>
      fa1 t89 0 fun t90 =>
      ld1 w t90 fun t91 =>
      iaS 1 t79 t91 fun t92 =>
      ld1 w t92 fun t93 =>
      fa1 t9 0 fun t94 =>
      ld1 w t94 fun t95 =>
      iaS 1 t95 t15 fun t97 =>
      ld1 w t97 fun t98 =>
      binQ Tryd.prog w .add 3 false t93 t98 fun t99 =>
      iaS 1 t79 t91 fun t100 =>
      stW Tryd.prog 3 t100 t99 w fun w =>
      Drew w fun w =>
      iaS 2 t1 t15 fun t104 =>
      fa1 t104 1 fun t105 =>
      ld1 w t105 fun t106 =>
      iaS 1 t79 t106 fun t107 =>
      ld1 w t107 fun t108 =>
      fa1 t9 0 fun t109 =>
      ld1 w t109 fun t110 =>
      iaS 1 t110 t15 fun t112 =>
      ld1 w t112 fun t113 =>
      binQ Tryd.prog w .sub 3 false t108 t113 fun t114 =>
      iaS 1 t79 t106 fun t115 =>
      stW Tryd.prog 3 t115 t114 w fun w =>
      Drew w fun w =>
      fa1 t9 0 fun t117 =>
      ld1 w t117 fun t118 =>
      iaS 1 t118 t15 fun t120 =>
      ld1 w t120 fun t121 =>
      fa1 t9 0 fun t122 =>
      ld1 w t122 fun t123 =>
      iaS 1 t123 t15 fun t125 =>
      ld1 w t125 fun t126 =>
      binQ Tryd.prog w .mul 3 false t121 t126 fun t127 =>
      binQ Tryd.prog w .add 3 false t14 t127 fun t128 =>
      Drew w fun w =>
      fa1 t11 0 fun t129 =>
      ld1 w t129 fun t130 =>
      iaS 1 t130 t15 fun t132 =>
      ld1 w t132 fun t133 =>
      fa1 t9 0 fun t134 =>
      ld1 w t134 fun t135 =>
      iaS 1 t135 t15 fun t137 =>
      ld1 w t137 fun t138 =>
      unQ .neg t138 fun t139 =>
      binQ Tryd.prog w .neq 3 false t133 t139 fun t140 =>
      condW t140 (
        R (.returned (.bool false)) w
      ) (
        binQ Tryd.prog w .add 3 true t15 (.int .i64 1) fun t85 =>
        next t128 t85 w
      )
    ) (
      S4L1 t0 t1 t2 t3 t9 t14 t79 R w
    )

def S4 (t0 t1 t2 t3 : Value) (w : World) (R : Ending → World → Prop) : Prop :=
  callW Tryd.prog (.func (.func 21) #[] #[]) [t1] w fun t18 w =>
  unQ .not t18 fun t19 =>
  condW t19 (
    callW Tryd.prog (.func (.func 14) #[] #[]) [] w fun t20 w =>
    R (.returned t20) w
  ) (
    callW Tryd.prog (.func (.func 22) #[] #[]) [t0, t1, t2, t3] w fun t26 w =>
    exQ t26 0 fun t27 =>
    exQ t26 1 fun t28 =>
    boxW 36 (.agg #[(.slice none 0 0), (.int .i64 0), (.int .i64 0)]) w fun t9 w =>
    stW Tryd.prog 36 t9 t27 w fun w =>
    callW Tryd.prog (.func (.func 22) #[] #[]) [t0, t1, t3, t2] w fun t34 w =>
    exQ t34 0 fun t35 =>
    exQ t34 1 fun t36 =>
    boxW 36 (.agg #[(.slice none 0 0), (.int .i64 0), (.int .i64 0)]) w fun t11 w =>
    stW Tryd.prog 36 t11 t35 w fun w =>
    binQ Tryd.prog w .neq 24 false t28 t36 fun t39 =>
    gd t39 false (fun k => k t28 w) w fun t41 w =>
    gd t39 false (fun k => binQ Tryd.prog w .neq 24 true t41 (.int .i64 0) fun v => k v w) w fun t42 w =>
    pickQ t39 (.bool true) t42 fun t43 =>
    condW t43 (
      binQ Tryd.prog w .eql 24 false t28 t36 fun t46 =>
      gd t46 true (fun k => callW Tryd.prog (.func (.func 14) #[] #[]) [] w k) w fun t48 w =>
      pickQ t46 t48 (.bool false) fun t49 =>
      R (.returned t49) w
    ) (
      fa1 t9 0 fun t50 =>
      ld1 w t50 fun t51 =>
      ln1 t51 fun t52 =>
      ln1 t1 fun t54 =>
      binQ Tryd.prog w .neq 3 false t52 t54 fun t55 =>
      gd t55 false (fun k => fa1 t11 0 fun v => k v w) w fun t57 w =>
      gd t55 false (fun k => ld1 w t57 fun v => k v w) w fun t58 w =>
      gd t55 false (fun k => ln1 t58 fun v => k v w) w fun t59 w =>
      gd t55 false (fun k => k t1 w) w fun t60 w =>
      gd t55 false (fun k => ln1 t60 fun v => k v w) w fun t61 w =>
      gd t55 false (fun k => binQ Tryd.prog w .neq 3 false t59 t61 fun v => k v w) w fun t62 w =>
      pickQ t55 (.bool true) t62 fun t63 =>
      gd t63 false (fun k => fa1 t11 1 fun v => k v w) w fun t65 w =>
      gd t63 false (fun k => ld1 w t65 fun v => k v w) w fun t66 w =>
      gd t63 false (fun k => fa1 t9 1 fun v => k v w) w fun t67 w =>
      gd t63 false (fun k => ld1 w t67 fun v => k v w) w fun t68 w =>
      gd t63 false (fun k => binQ Tryd.prog w .neq 3 false t66 t68 fun v => k v w) w fun t69 w =>
      pickQ t63 (.bool true) t69 fun t70 =>
      gd t70 false (fun k => fa1 t11 2 fun v => k v w) w fun t72 w =>
      gd t70 false (fun k => ld1 w t72 fun v => k v w) w fun t73 w =>
      gd t70 false (fun k => fa1 t9 2 fun v => k v w) w fun t74 w =>
      gd t70 false (fun k => ld1 w t74 fun v => k v w) w fun t75 w =>
      gd t70 false (fun k => binQ Tryd.prog w .neq 3 false t73 t75 fun v => k v w) w fun t76 w =>
      pickQ t70 (.bool true) t76 fun t77 =>
      condW t77 (
        R (.returned (.bool false)) w
      ) (
        mkW Tryd.prog 34 t0 t0 w fun t79 w =>
        S4L0 t0 t1 t2 t3 t9 t11 t79 R w
      )
    )
  )

def A4 : Ann where
  live := fun
    | 0 => [14, 15]
    | 2 => [16]
    | _ => []
  wr := fun
    | 0 => fun i => Nat.beq i 8 || (Nat.ble 14 i && Nat.ble i 15) || (Nat.ble 80 i && Nat.ble i 140)
    | 2 => fun i => Nat.beq i 8 || Nat.beq i 16 || (Nat.ble 141 i && Nat.ble i 160)
    | _ => fun _ => false
  sched := fun
    | 14 => (.take 0 (.take 1 (.take 2 (.take 3 (.take 4 (.take 5 (.take 6 (.take 7 (.take 8 (.take 9 (.take 10 (.take 11 (.take 12 (.take 13 (.take 14 (.bar 15 .done))))))))))))))))
    | 15 => (.take 0 (.take 1 (.take 2 (.take 3 (.take 4 (.take 5 (.take 6 (.take 7 (.take 8 (.take 9 (.take 10 (.take 11 (.take 12 (.take 13 (.take 14 (.bar 15 .done))))))))))))))))
    | 16 => (.take 0 (.take 1 (.take 2 (.take 3 (.take 4 (.take 5 (.take 6 (.take 7 (.take 8 (.take 9 (.take 10 (.take 11 (.take 12 (.take 13 .done))))))))))))))
    | 17 => (.take 0 (.take 1 (.take 2 (.take 3 (.take 4 (.take 5 (.take 6 (.take 7 (.take 8 (.take 9 (.take 10 (.take 11 .done))))))))))))
    | 24 => (.take 0 (.take 1 (.take 2 (.take 3 (.take 4 (.take 5 (.take 6 (.take 7 (.take 8 (.take 9 (.take 10 (.take 11 (.take 12 (.take 13 (.take 14 (.take 15 (.take 16 (.take 17 (.take 18 (.take 19 (.take 20 (.take 21 (.take 22 (.take 23 (.take 24 (.take 25 (.take 26 (.take 27 (.take 28 (.take 29 (.take 30 (.take 31 (.eff 32 (.take 33 (.take 34 (.eff 35 (.take 36 (.take 37 .done))))))))))))))))))))))))))))))))))))))
    | _ => .done

set_option maxRecDepth 100000 in
theorem ok4 : (codeOk Tryd.f4.ntmps A4 (Tryd.f4.body.getD .skip) 0 && Nat.ble 4 Tryd.f4.ntmps) = true := by kernel_rfl
set_option maxRecDepth 100000 in
theorem lift4 {t0 t1 t2 t3 : Value} {w : World} {R : Ending → World → Prop} (h : S4 t0 t1 t2 t3 w R) : Calls Tryd.prog 4 #[t0, t1, t2, t3] w R :=
  calls_of_cw (fn := Tryd.f4) (c := Tryd.f4.body.getD .skip) A4 mixes Tryd.func4 (by kernel_rfl) ok4
    ((by kernel_rfl : (S4 t0 t1 t2 t3 w R) = cw Tryd.prog A4 (Tryd.f4.body.getD .skip) 0 (bodyQ Tryd.prog Tryd.f4 R) (frOf #[t0, t1, t2, t3]) w).mp h)

theorem fok14 : fnOk Tryd.prog 14 = true := by kernel_rfl
theorem fok29 : fnOk Tryd.prog 29 = true := by kernel_rfl
theorem fok19 : fnOk Tryd.prog 19 = true := by kernel_rfl
theorem fok20 : fnOk Tryd.prog 20 = true := by kernel_rfl
theorem fok21 : fnOk Tryd.prog 21 = true := by kernel_rfl
theorem fok23 : fnOk Tryd.prog 23 = true := by kernel_rfl
theorem fok4 : fnOk Tryd.prog 4 = true := by kernel_rfl
end Go.Proofs.YtkdcldbedbagjaaDoor
