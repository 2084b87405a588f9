/- SquareFoster: the resistances of all wires sum to one less than the number of vertices. -/
import Derived.Test.YtkdcldbedbagjaaDoorVa
import Derived.Test.YtkdcldbedbagjaaDoorSg
import Derived.Test.YtkdcldbedbagjaaDoorGc
set_option linter.all false
namespace Go.Proofs.YtkdcldbedbagjaaDoor
open Go.Lf Go.RowKit Go.Dt

theorem BX.of_chg {X : Nat → Prop} {w w' : World} (h : Chg X w w') : BX X w w' := ⟨h.os, h.tape, h.output, h.size, h.block⟩

theorem pace_good {a b : Nat} (hb : 0 < b) : ∃ p q : Nat, paceOf a b = ((p : Int), (q : Int)) ∧ 1 ≤ q ∧ q ≤ b ∧ p ≤ a ∧ b % q = 0 ∧ p * (b / q) = a := by
  have hg : 0 < Nat.gcd a b := Nat.gcd_pos_of_pos_right _ hb
  have h1 := Nat.gcd_dvd_left a b
  have h2 := Nat.gcd_dvd_right a b
  refine ⟨a / Nat.gcd a b, b / Nat.gcd a b, rfl, Nat.div_pos (Nat.le_of_dvd hb h2) hg, Nat.div_le_self _ _, Nat.div_le_self _ _, ?_, ?_⟩
  · obtain ⟨c, hc⟩ := h2
    have e : b / Nat.gcd a b = c := Nat.div_eq_of_eq_mul_right hg hc
    rw [e, hc, Nat.mul_mod_left]
  · obtain ⟨c, hc⟩ := h2
    have e : b / Nat.gcd a b = c := Nat.div_eq_of_eq_mul_right hg hc
    have hc0 : 0 < c := by
      rcases Nat.eq_zero_or_pos c with rfl | h
      · rw [Nat.mul_zero] at hc; omega
      · exact h
    rw [e, Nat.div_eq_of_eq_mul_left hc0 hc, Nat.div_mul_cancel h1]

theorem wires_good {n : Int} {L : List (Int × Int)} (h : netErr n L = 0) {i : Nat} (hi : i < L.length) :
    endErr n L (L.getD i (0, 0)).1 (L.getD i (0, 0)).2 = 0 ∧ (L.getD i (0, 0)).1.toNat = ((L.map natW).getD i (0, 0)).1 ∧ (L.getD i (0, 0)).2.toNat = ((L.map natW).getD i (0, 0)).2 := by
  obtain ⟨N, rfl, hN, hb⟩ := net_ok h
  have hm : (L.map natW).getD i (0, 0) = natW (L.getD i (0, 0)) := by simp [List.getD_eq_getElem?_getD, hi]
  have hin : natW (L.getD i (0, 0)) ∈ L.map natW := by rw [getD_lt _ _ _ hi]; exact List.mem_map.2 ⟨_, List.getElem_mem hi, rfl⟩
  have hw := hN.wf _ hin
  have he := hb (L.getD i (0, 0)) (by rw [getD_lt _ _ _ hi]; exact List.getElem_mem hi)
  simp only [wN, wC, List.cons.injEq, Value.int.injEq, and_true, true_and] at he
  refine ⟨?_, by rw [hm]; rfl, by rw [hm]; rfl⟩
  unfold endErr
  rw [if_pos h, if_neg (by omega)]

set_option maxRecDepth 100000 in
set_option maxHeartbeats 1000000 in
theorem law_foster {v : Value} {L : List (Int × Int)} (n : Int) (w : World) (hw : Wh w) (hr : RdW w v L) : Calls Tryd.prog 12 #[.int .i64 n, v] w fun e w' => e = .returned (.bool true) ∧ Kp w w' := by
  obtain ⟨va, vc, ev, hvc⟩ := hr.len
  have lnv : ∀ K : Value → Prop, ln1 v K = K (.int .i64 L.length) := fun K => by rw [ev]; rfl
  refine lift12 ?_
  unfold S12
  refine r_use fok21 (few_calls w hr) rfl ?_
  rintro _ _ ⟨rfl, rfl⟩
  refine ⟨_, rfl, ?_⟩
  have fin : ∀ w' : World, Kp w w' → callW Tryd.prog (.func (.func 14) #[] #[]) [] w' fun t w1 => Ending.returned t = .returned (.bool true) ∧ Kp w w1 := fun w' k => by
    refine r_use fok14 (alive_calls w' (hw.kp k)) rfl ?_
    rintro _ w4 ⟨rfl, k4⟩
    exact ⟨_, rfl, rfl, Kp.trans k k4⟩
  by_cases h40 : L.length ≤ 40
  case neg =>
    simp (disch := omega) only [r_ln, r_pick, r_pickT, r_pickF, r_condT, r_condF, r_gdTT, r_gdFF, r_gdTF, r_gdFT, r_gqTT, r_gqFF, r_gqTF, r_gqFT, r_not, r_lss, r_leq, r_gtr, r_geq, r_eql, r_neq, r_add, r_sub, r_min2, r_max2, r_min3, r_max3, r_fa, r_iaS, r_iaA, r_ex2a, r_ex2b, r_ex3a, r_ex3b, r_ex3c, r_nc, r_keepE, Nat.zero_add, Nat.add_zero, Nat.mul_one, Int.toNat_natCast, toNat_sub1, toNat_add1, decide_true, decide_false, Bool.not_true, Bool.not_false, if_true, if_false, Bool.false_eq_true, reduceCtorEq, h40]
    exact fin w (Kp.refl _)
  simp (disch := omega) only [r_ln, r_pick, r_pickT, r_pickF, r_condT, r_condF, r_gdTT, r_gdFF, r_gdTF, r_gdFT, r_gqTT, r_gqFF, r_gqTF, r_gqFT, r_not, r_lss, r_leq, r_gtr, r_geq, r_eql, r_neq, r_add, r_sub, r_min2, r_max2, r_min3, r_max3, r_fa, r_iaS, r_iaA, r_ex2a, r_ex2b, r_ex3a, r_ex3b, r_ex3c, r_nc, r_keepE, Nat.zero_add, Nat.add_zero, Nat.mul_one, Int.toNat_natCast, toNat_sub1, toNat_add1, decide_true, decide_false, Bool.not_true, Bool.not_false, if_true, if_false, Bool.false_eq_true, reduceCtorEq, h40]
  refine r_use fok24 (Trees_calls (n := n) w hw hr) rfl ?_
  rintro _ w1 ⟨k1, rfl⟩
  refine ⟨_, rfl, ?_⟩
  rw [r_ex2a, r_ex2b]
  have n00 : decide ((0 : Int) = 0) = true := rfl
  by_cases hE : netErr n L = 0
  case neg =>
    simp (disch := omega) only [r_ln, r_pick, r_pickT, r_pickF, r_condT, r_condF, r_gdTT, r_gdFF, r_gdTF, r_gdFT, r_gqTT, r_gqFF, r_gqTF, r_gqFT, r_not, r_lss, r_leq, r_gtr, r_geq, r_eql, r_neq, r_add, r_sub, r_min2, r_max2, r_min3, r_max3, r_fa, r_iaS, r_iaA, r_ex2a, r_ex2b, r_ex3a, r_ex3b, r_ex3c, r_nc, r_keepE, Nat.zero_add, Nat.add_zero, Nat.mul_one, Int.toNat_natCast, toNat_sub1, toNat_add1, decide_true, decide_false, Bool.not_true, Bool.not_false, if_true, if_false, Bool.false_eq_true, reduceCtorEq, r_gdU, hE]
    refine r_use fok14 (alive_calls w1 (hw.kp k1)) rfl ?_
    rintro _ w4 ⟨rfl, k4⟩
    exact ⟨_, rfl, rfl, Kp.trans k1 k4⟩
  obtain ⟨N, rfl, hN, hb⟩ := net_ok hE
  have hfew := hN.few
  have hlen : (L.map natW).length = L.length := List.length_map _
  have hT : treesV N L = trees N (L.map natW) := by unfold treesV; rw [if_pos hE]; rfl
  have s1 := trees_small (n := N) hfew
  rw [hT]
  by_cases h0 : trees N (L.map natW) = 0
  · have h0' : ((0 : Nat) : Int) = 0 := rfl
    rw [h0]
    have c1 : ((0 : Nat) : Int) < 1 := by omega
    simp (disch := omega) only [r_ln, r_pick, r_pickT, r_pickF, r_condT, r_condF, r_gdTT, r_gdFF, r_gdTF, r_gdFT, r_gqTT, r_gqFF, r_gqTF, r_gqFT, r_not, r_lss, r_leq, r_gtr, r_geq, r_eql, r_neq, r_add, r_sub, r_min2, r_max2, r_min3, r_max3, r_fa, r_iaS, r_iaA, r_ex2a, r_ex2b, r_ex3a, r_ex3b, r_ex3c, r_nc, r_keepE, Nat.zero_add, Nat.add_zero, Nat.mul_one, Int.toNat_natCast, toNat_sub1, toNat_add1, decide_true, decide_false, Bool.not_true, Bool.not_false, if_true, if_false, Bool.false_eq_true, reduceCtorEq, r_gdU, hE, c1, h0']
    refine r_use fok14 (alive_calls w1 (hw.kp k1)) rfl ?_
    rintro _ w4 ⟨rfl, k4⟩
    exact ⟨_, rfl, rfl, Kp.trans k1 k4⟩
  have hpos : 0 < trees N (L.map natW) := by omega
  have c1 : ¬ ((trees N (L.map natW) : Nat) : Int) < 1 := by omega
  simp (disch := omega) only [r_ln, r_pick, r_pickT, r_pickF, r_condT, r_condF, r_gdTT, r_gdFF, r_gdTF, r_gdFT, r_gqTT, r_gqFF, r_gqTF, r_gqFT, r_not, r_lss, r_leq, r_gtr, r_geq, r_eql, r_neq, r_add, r_sub, r_min2, r_max2, r_min3, r_max3, r_fa, r_iaS, r_iaA, r_ex2a, r_ex2b, r_ex3a, r_ex3b, r_ex3c, r_nc, r_keepE, Nat.zero_add, Nat.add_zero, Nat.mul_one, Int.toNat_natCast, toNat_sub1, toNat_add1, decide_true, decide_false, Bool.not_true, Bool.not_false, if_true, if_false, Bool.false_eq_true, reduceCtorEq, r_gdU, hE, c1]
  generalize hW : L.map natW = ws at *
  generalize hV : trees N ws = V at *
  unfold S12L0
  refine ⟨fun t7 t8 wr => ∃ i : Nat, i ≤ L.length ∧ t7 = .int .i64 (sumL (fun i => volt N ws (ws.getD i (0, 0)).1 (ws.getD i (0, 0)).2) i) ∧ t8 = .int .i64 i ∧ sumL (fun i => volt N ws (ws.getD i (0, 0)).1 (ws.getD i (0, 0)).2) i ≤ i * 65536 ∧ Kp w wr,
    fun _ t8 _ => L.length - (intOf t8).toNat, ⟨0, by omega, rfl, rfl, by simp [sumL], k1⟩, ?_⟩
  rintro _ _ _ wr ⟨i, hi, rfl, rfl, hsum, kr⟩
  rw [lnv]
  by_cases hlt : i < L.length
  case neg =>
    have hlt' : ¬ (i : Int) < (L.length : Int) := by omega
    have hil : i = ws.length := by omega
    simp only [r_lss, decide_eq_false hlt', r_condF]
    have hf := foster hN.wf (show 1 ≤ N by have := hN.two; omega)
    rw [hil, hf, hV]
    have h2 := hN.two
    have h8 := hN.most
    have e1 : (N : Int) - 1 = ((N - 1 : Nat) : Int) := by omega
    have hb1 : (N - 1) * V ≤ 7 * 65536 := Nat.mul_le_mul (by omega) s1
    rw [r_sub _ _ (by omega) (by omega), e1, r_mulN _ _ (by omega), r_eql, decide_eq_true rfl]
    simp only [r_ln, r_pick, r_pickT, r_pickF, r_condT, r_condF, r_gdTT, r_gdFF, r_gdTF, r_gdFT, r_gqTT, r_gqFF, r_gqTF, r_gqFT, r_not, r_lss, r_leq, r_gtr, r_geq, r_eql, r_neq, r_add, r_sub, r_min2, r_max2, r_min3, r_max3, r_fa, r_iaS, r_iaA, r_ex2a, r_ex2b, r_ex3a, r_ex3b, r_ex3c, r_nc, r_keepE, Nat.zero_add, Nat.add_zero, Nat.mul_one, Int.toNat_natCast, toNat_sub1, toNat_add1, decide_true, decide_false, Bool.not_true, Bool.not_false, if_true, if_false, Bool.false_eq_true, reduceCtorEq]
    exact fin wr kr |> fun h => by
      refine r_use fok14 (alive_calls wr (hw.kp kr)) rfl ?_
      rintro _ w4 ⟨rfl, k4⟩
      exact ⟨_, rfl, rfl, Kp.trans kr k4⟩
  have hlt' : (i : Int) < (L.length : Int) := by omega
  simp only [r_lss, decide_eq_true hlt', r_condT]
  refine r_drew fun w2 k2 _ => ?_
  have k02 := Kp.trans kr k2
  have hr2 := hr.kp k02
  obtain ⟨b, off, cap, e2, _, hc⟩ := hr2.at (List.getElem?_eq_getElem hlt)
  have hii : (i : Int).toNat = i := by omega
  have hA : w2.cell? ⟨b, off + i * 2 + 0, none⟩ = some (.int .i64 (L.getD i (0, 0)).1) := by rw [getD_lt _ _ _ hlt]; exact hc 0 _ rfl
  have hB : w2.cell? ⟨b, off + i * 2 + 1, none⟩ = some (.int .i64 (L.getD i (0, 0)).2) := by rw [getD_lt _ _ _ hlt]; exact hc 1 _ rfl
  have hbl : b < w2.heap.size := World.block_lt_of_cell? w2 _ hA
  have ia : ∀ K : Value → Prop, iaS 2 v (.int .i64 i) K = K (.pointer (some ⟨b, off + i * 2, none⟩)) := fun K => by
    rw [e2, r_iaS _ _ _ _ _ _ _ (by omega) (by omega), hii]
  obtain ⟨g1, g2, g3⟩ := wires_good hE hlt
  rw [hW] at g2 g3
  have tE : thE N L (L.getD i (0, 0)).1 (L.getD i (0, 0)).2 = 0 := by unfold thE; rw [if_pos g1, hW]; exact if_neg (by show ¬ trees N ws = 0; omega)
  have tP : rsP N L (L.getD i (0, 0)).1 (L.getD i (0, 0)).2 = shP N ws (ws.getD i (0, 0)).1 (ws.getD i (0, 0)).2 := by unfold rsP; rw [if_pos g1, hW, g2, g3]; rfl
  have cE : chE N L i = 0 := by unfold chE; rw [if_pos hE, if_neg (by omega), hW]; exact if_neg (by show ¬ trees N ws = 0; omega)
  have cP : chP N L i = shP N ws (ws.getD i (0, 0)).1 (ws.getD i (0, 0)).2 := by unfold chP; rw [if_pos ⟨hE, by omega⟩, hW, hii]; rfl
  obtain ⟨p, q, pe, q1, qb, pa, qm, qv⟩ := pace_good (a := volt N ws (ws.getD i (0, 0)).1 (ws.getD i (0, 0)).2) (b := V) hpos
  have sv := volt_small (n := N) (s := (ws.getD i (0, 0)).1) (t := (ws.getD i (0, 0)).2) hfew
  have sP : shP N ws (ws.getD i (0, 0)).1 (ws.getD i (0, 0)).2 = ((p : Int), (q : Int)) := by unfold shP; rw [hV, if_neg (by omega), pe]
  rw [sP] at tP cP
  refine r_join2 (fun t9 t10 w' => ∃ b9, t9 = ptrV b9 ∧ t10 = .int .i64 0 ∧ w'.heap[b9]? = some (.cells #[.int .i64 p, .int .i64 q] 58 (0, 0)) ∧ Kp w w') ?_ ?_
  case refine_2 =>
    intro kk hkk
    refine ⟨fun k => w2.heap.size ≤ k, ?_⟩
    simp only [r_tx, ia, r_fa, Nat.add_zero]
    rw [Nat.add_zero] at hA
    rw [r_txl hA (by show ¬ w2.heap.size ≤ b; omega), r_txl hB (by show ¬ w2.heap.size ≤ b; omega)]
    refine ⟨?_, ?_, trivial⟩
    · refine r_use fok36 (Resist_calls (n := N) w2 (hw.kp k02) hr2) rfl ?_
      rintro _ w3 ⟨k3, rfl⟩
      refine ⟨_, rfl, ?_⟩
      rw [r_keepXE]
      refine ⟨BX.of_below k3, ?_⟩
      simp only [r_tx, r_ex2a, r_ex2b]
      refine r_box fun b9 w4 e9 s9 h9 k4 => ?_
      rw [r_keepXE]
      refine ⟨BX.of_below k4, ?_⟩
      have h9' : w4.heap[b9]? = some (.cells #[.int .i64 0, .int .i64 0] 58 (0, 0)) := h9
      have hs3 := k3.size
      have hs2 := k02.size
      refine st58 h9' fun w5 c5 s5 h5 => ?_
      rw [r_keepWE]
      refine ⟨BX.of_chg (c5.mono fun k _ e => by omega), ?_⟩
      rw [tE]
      rw [tP] at h5
      exact hkk _ _ _ ⟨b9, rfl, rfl, h5, Kp.of_chg (Kp.trans k02 (Kp.trans k3 k4)) c5 fun q e => by omega⟩
    · refine r_box fun b9 w3 e9 s9 h9 k3 => ?_
      rw [r_keepXE]
      refine ⟨BX.of_below k3, ?_⟩
      have h9' : w3.heap[b9]? = some (.cells #[.int .i64 0, .int .i64 0] 58 (0, 0)) := h9
      refine r_use fok36 (Resist_calls (n := N) w3 (hw.kp (Kp.trans k02 k3)) (hr2.kp k3)) rfl ?_
      rintro _ w4 ⟨k4, rfl⟩
      refine ⟨_, rfl, ?_⟩
      rw [r_keepXE]
      refine ⟨BX.of_below k4, ?_⟩
      simp only [r_tx, r_ex2a, r_ex2b]
      have hs2 := k02.size
      have hs4 := k4.size
      refine st58 (block_below h9' k4) fun w5 c5 s5 h5 => ?_
      rw [r_keepWE]
      refine ⟨BX.of_chg (c5.mono fun k _ e => by omega), ?_⟩
      rw [tE]
      rw [tP] at h5
      exact hkk _ _ _ ⟨b9, rfl, rfl, h5, Kp.of_chg (Kp.trans k02 (Kp.trans k3 k4)) c5 fun q e => by omega⟩
  rintro _ _ w3 ⟨b9, rfl, rfl, h9, k3⟩
  refine r_use fok39 (Chance_calls (n := N) (i := i) w3 (hw.kp k3) (hr.kp k3)) rfl ?_
  rintro _ w4 ⟨k4, rfl⟩
  refine ⟨_, rfl, ?_⟩
  rw [r_ex2a, r_ex2b, cE, cP]
  refine r_box fun b11 w5 e11 s11 h11 k5 => ?_
  have h11' : w5.heap[b11]? = some (.cells #[.int .i64 0, .int .i64 0] 58 (0, 0)) := h11
  have hs4 := k4.size
  have hs3 := k3.size
  have hb9 := block_lt h9
  refine st58 h11' fun w6 c6 s6 h6 => ?_
  have h96 : w6.heap[b9]? = some (.cells #[.int .i64 p, .int .i64 q] 58 (0, 0)) := c6.at (block_below h9 (Kp.trans k4 k5)) (by omega)
  have k06 : Kp w w6 := Kp.of_chg (Kp.trans k3 (Kp.trans k4 k5)) c6 fun q e => by omega
  have c90 : w6.cell? ⟨b9, 0 + 0, none⟩ = some (.int .i64 p) := by rw [cell_row h96]; rfl
  have c91 : w6.cell? ⟨b9, 0 + 1, none⟩ = some (.int .i64 q) := by rw [cell_row h96]; rfl
  have hne : ∀ K : Value → Prop, binQ Tryd.prog w6 .neq 58 false (wV p q) (wV p q) K = K (.bool (!decide (((p : Int), (q : Int)) = ((p : Int), (q : Int))))) := fun K => r_ne58 ((p : Int), (q : Int)) ((p : Int), (q : Int)) K
  have hself : decide (((p : Int), (q : Int)) = ((p : Int), (q : Int))) = true := decide_eq_true rfl
  have q1' : ¬ (q : Int) < 1 := by omega
  have qm' : ((V % q : Nat) : Int) = 0 := by rw [qm]; rfl
  simp (disch := omega) only [r_ln, r_pick, r_pickT, r_pickF, r_condT, r_condF, r_gdTT, r_gdFF, r_gdTF, r_gdFT, r_gqTT, r_gqFF, r_gqTF, r_gqFT, r_not, r_lss, r_leq, r_gtr, r_geq, r_eql, r_neq, r_add, r_sub, r_min2, r_max2, r_min3, r_max3, r_fa, r_iaS, r_iaA, r_ex2a, r_ex2b, r_ex3a, r_ex3b, r_ex3c, r_nc, r_keepE, Nat.zero_add, Nat.add_zero, Nat.mul_one, Int.toNat_natCast, toNat_sub1, toNat_add1, decide_true, decide_false, Bool.not_true, Bool.not_false, if_true, if_false, Bool.false_eq_true, reduceCtorEq, r_gdU, n00, pace_box h96, pace_box h6, hne, hself, r_ld c91, q1', r_remN, qm']
  refine r_drew fun w7 k7 _ => ?_
  have c90' := cell_later k7 c90
  have c91' := cell_later k7 c91
  have hvq : V / q ≤ V := Nat.div_le_self _ _
  have e3 : sumL (fun i => volt N ws (ws.getD i (0, 0)).1 (ws.getD i (0, 0)).2) (i + 1) = sumL (fun i => volt N ws (ws.getD i (0, 0)).1 (ws.getD i (0, 0)).2) i + p * (V / q) := by rw [sumL_last, qv]
  have hb2 : sumL (fun i => volt N ws (ws.getD i (0, 0)).1 (ws.getD i (0, 0)).2) (i + 1) ≤ (i + 1) * 65536 := by rw [e3, qv]; omega
  have e4 : ((sumL (fun i => volt N ws (ws.getD i (0, 0)).1 (ws.getD i (0, 0)).2) (i + 1) : Nat) : Int) = (sumL (fun i => volt N ws (ws.getD i (0, 0)).1 (ws.getD i (0, 0)).2) i : Nat) + ((p * (V / q) : Nat) : Int) := by rw [e3]; omega
  simp only [Nat.zero_add] at c90' c91'
  rw [r_ld c90', r_ld c91', r_quoN _ _ (by omega) (by omega), r_mulN _ _ (by omega), r_add _ _ (by omega) (by omega)]
  exact ⟨⟨i + 1, by omega, by rw [e4], by go_num, hb2, Kp.trans k06 k7⟩, by simp only [intOf]; omega⟩

end Go.Proofs.YtkdcldbedbagjaaDoor
