/- SquareCurrents. -/
import Derived.Test.YtkdcldbedbagjaaDoorNb
import Derived.Test.YtkdcldbedbagjaaDoorKk
import Derived.Test.YtkdcldbedbagjaaDoorVa
import Derived.Test.YtkdcldbedbagjaaDoorSg
set_option linter.all false
namespace Go.Proofs.YtkdcldbedbagjaaDoor
open Go.Lf Go.RowKit Go.Dt

/-- What a network without an error is. -/
theorem nw_ok {W H : Int} {L : List T3} (h : nwE W H L = 0) : Diss W H L ∧ W ≤ 1000 ∧ H ≤ 1000 ∧ (lvsL L).length ≤ 8 ∧ L.length ≤ 16 ∧ nwN W H L = (lvsL L).length ∧ nwW W H L = wiresL L := by
  have hn : nwN W H L = (lvsL L).length ∧ nwW W H L = wiresL L := by unfold nwN nwW; rw [if_pos h, if_pos h]; exact ⟨rfl, rfl⟩
  unfold nwE at h
  by_cases h0 : isE W H L = 0
  case neg => rw [if_neg h0] at h; exact absurd h h0
  rw [if_pos h0] at h
  by_cases h1 : isB W H L = true
  case neg => rw [if_neg h1] at h; cases h
  rw [if_pos h1] at h
  by_cases h2 : 8 < (lvsL L).length
  · rw [if_pos h2] at h; cases h
  obtain ⟨hW, hH, hl⟩ := isE_zero h0
  have bW := of_decide_eq_true hW
  have bH := of_decide_eq_true hH
  exact ⟨diss_of hW hH h1, bW.2, bH.2, by omega, hl, hn.1, hn.2⟩
theorem nw_net {W H : Int} {L : List T3} (d : Diss W H L) (h8 : (lvsL L).length ≤ 8) (hl : L.length ≤ 16) : endErr (lvsL L).length (wiresL L) 0 (((lvsL L).length : Int) - 1) = 0 := by
  have h2 := lv_two d
  have hw := wsL_wf d
  have h0 : netErr (lvsL L).length (wiresL L) = 0 := by
    unfold netErr
    rw [if_neg (by omega), if_neg (by unfold wiresL; rw [List.length_map]; omega), if_neg ?_]
    rw [Bool.not_eq_true, List.any_eq_false]
    intro e he
    obtain ⟨s, hs, rfl⟩ := List.mem_map.1 he
    have := hw (tp L s, bt L s) (List.mem_map.2 ⟨s, hs, rfl⟩)
    dsimp only at this
    obtain ⟨a1, a2, a3⟩ := this
    unfold tp at a1 a3
    unfold bt at a2 a3
    unfold badB
    dsimp only
    simp only [Bool.or_eq_true, decide_eq_true_eq]
    omega
  unfold endErr
  rw [if_pos h0, if_neg (by omega)]
theorem nw_through {W H : Int} {L : List T3} (d : Diss W H L) (h8 : (lvsL L).length ≤ 8) (hl : L.length ≤ 16) :
    thE (lvsL L).length (wiresL L) 0 (((lvsL L).length : Int) - 1) = 0 ∧ thT (lvsL L).length (wiresL L) 0 (((lvsL L).length : Int) - 1) = (trees (lvsL L).length (wsL L) : Nat) ∧
    thV (lvsL L).length (wiresL L) 0 (((lvsL L).length : Int) - 1) = (volt (lvsL L).length (wsL L) 0 ((lvsL L).length - 1) : Nat) ∧
    thC (lvsL L).length (wiresL L) 0 (((lvsL L).length : Int) - 1) = flowC (lvsL L).length (wsL L) 0 ((lvsL L).length - 1) := by
  have h2 := lv_two d
  have ht := wsL_trees d
  have e : (((lvsL L).length : Int) - 1).toNat = (lvsL L).length - 1 := by omega
  have h0 := nw_net d h8 hl
  have hE : thE (lvsL L).length (wiresL L) 0 (((lvsL L).length : Int) - 1) = 0 := by
    unfold thE
    rw [if_pos h0, wsL_nat, Int.toNat_natCast, if_neg (by omega)]
  refine ⟨hE, ?_, ?_, ?_⟩
  · unfold thT; rw [if_pos hE, wsL_nat, Int.toNat_natCast]
  · unfold thV; rw [if_pos hE, wsL_nat, Int.toNat_natCast, e]; rfl
  · unfold thC; rw [if_pos hE, wsL_nat, Int.toNat_natCast, e]; rfl

theorem side_bound {W H : Int} {L : List T3} (d : Diss W H L) (hW : W ≤ 1000) {k : Nat} (hk : k < L.length) {T : Nat} (hT : T ≤ 65536) : 0 ≤ (L.getD k (0, 0, 0)).2.2 * (T : Int) ∧ (L.getD k (0, 0, 0)).2.2 * (T : Int) ≤ 1000 * 65536 := by
  have fs := d.fit _ (getD_mem (d := (0, 0, 0)) hk)
  exact ⟨Int.mul_nonneg (by omega) (by omega), Int.mul_le_mul (by omega) (by omega) (by omega) (by omega)⟩

set_option maxRecDepth 100000 in
set_option maxHeartbeats 2000000 in
theorem r5_0 {v cv : Value} {W H : Int} {L : List T3} {b10 : Nat} {W0 wm : World} (d : Diss W H L) (hW : W ≤ 1000) (hl : L.length ≤ 16) (hw : Wh W0) (km : Kp W0 wm) (hr : RdS wm v L)
    (hcv : RdInts wm cv (flowC (lvsL L).length (wsL L) 0 ((lvsL L).length - 1)))
    (h10 : wm.heap[b10]? = some (.cells #[cv, .int .i64 (trees (lvsL L).length (wsL L) : Nat), .int .i64 (volt (lvsL L).length (wsL L) 0 ((lvsL L).length - 1) : Nat)] 36 (0, 0))) :
    S5L0 (.int .i64 W) (.int .i64 H) v (ptrV b10) (fun e w' => e = .returned (.bool true) ∧ Kp W0 w') wm := by
  obtain ⟨va, vc, ev, _⟩ := hr.len
  have lnv : ∀ K : Value → Prop, ln1 v K = K (.int .i64 L.length) := fun K => by rw [ev]; rfl
  have hwl : (wsL L).length = L.length := by simp [wsL]
  have sT := trees_small (n := (lvsL L).length) (l := wsL L) (by omega)
  have sV := volt_small (n := (lvsL L).length) (l := wsL L) (s := 0) (t := (lvsL L).length - 1) (by omega)
  unfold S5L0
  refine ⟨fun t12 wr => ∃ i : Nat, i ≤ L.length ∧ t12 = .int .i64 i ∧ Kp wm wr, fun t12 _ => L.length - (intOf t12).toNat, ⟨0, by omega, rfl, Kp.refl _⟩, ?_⟩
  rintro _ _ wr ⟨i, hi, rfl, kr⟩
  rw [lnv]
  by_cases hlt : i < L.length
  case neg =>
    have hlt' : ¬ (i : Int) < (L.length : Int) := by omega
    simp only [r_lss, decide_eq_false hlt', r_condF]
    refine r_use fok14 (alive_calls wr (hw.kp (Kp.trans km kr))) rfl ?_
    rintro _ w4 ⟨rfl, k4⟩
    exact ⟨_, rfl, rfl, Kp.trans km (Kp.trans kr k4)⟩
  have hlt' : (i : Int) < (L.length : Int) := by omega
  simp only [r_lss, decide_eq_true hlt', r_condT]
  refine r_drew fun w2 k2 _ => ?_
  have k02 := Kp.trans kr k2
  have hb := block_below h10 k02
  have b0 : w2.cell? ⟨b10, 0, none⟩ = some cv := by rw [cell_row hb]; rfl
  have b1 : w2.cell? ⟨b10, 1, none⟩ = some (.int .i64 (trees (lvsL L).length (wsL L) : Nat)) := by rw [cell_row hb]; rfl
  have b2 : w2.cell? ⟨b10, 2, none⟩ = some (.int .i64 (volt (lvsL L).length (wsL L) 0 ((lvsL L).length - 1) : Nat)) := by rw [cell_row hb]; rfl
  have fl := wsL_flow d hlt
  have m1 := side_bound d hW hlt sT
  have m2 := side_bound d hW hlt sV
  have hfl : (flowC (lvsL L).length (wsL L) 0 ((lvsL L).length - 1)).length = L.length := by simp [flowC, hwl]
  obtain ⟨c, coff, ccap, ec, hc⟩ := (hcv.below k02).at (j := i) (by omega)
  have hii : (i : Int).toNat = i := by omega
  have iac : ∀ K : Value → Prop, iaS 1 cv (.int .i64 i) K = K (.pointer (some ⟨c, coff + i, none⟩)) := fun K => by rw [ec, r_iaS _ _ _ _ _ _ _ (by omega) (by omega), hii, Nat.mul_one]
  obtain ⟨q, qoff, qcap, eq, _, hq⟩ := (hr.kp k02).at (List.getElem?_eq_getElem hlt)
  have iaq : ∀ K : Value → Prop, iaS 3 v (.int .i64 i) K = K (.pointer (some ⟨q, qoff + i * 3, none⟩)) := fun K => by rw [eq, r_iaS _ _ _ _ _ _ _ (by omega) (by omega), hii]
  have q2 : w2.cell? ⟨q, qoff + i * 3 + 2, none⟩ = some (.int .i64 (L.getD i (0, 0, 0)).2.2) := by rw [getD_lt _ _ _ hlt]; exact hq 2 _ rfl
  generalize (flowC (lvsL L).length (wsL L) 0 ((lvsL L).length - 1)).getD i 0 = x at *
  generalize (L.getD i (0, 0, 0)).2.2 = y at *
  have e1 : ∀ K : Value → Prop, binQ Tryd.prog w2 .mul 3 false (.int .i64 x) (.int .i64 W) K = K (.int .i64 (x * W)) := fun K => r_mul _ _ (by omega) (by omega)
  have e2 : ∀ K : Value → Prop, binQ Tryd.prog w2 .mul 3 false (.int .i64 x) (.int .i64 H) K = K (.int .i64 (x * H)) := fun K => r_mul _ _ (by omega) (by omega)
  have e3 : ∀ K : Value → Prop, binQ Tryd.prog w2 .mul 3 false (.int .i64 y) (.int .i64 (trees (lvsL L).length (wsL L) : Nat)) K = K (.int .i64 (x * W)) := fun K => by rw [fl.1]; exact r_mul _ _ (by omega) (by omega)
  have e4 : ∀ K : Value → Prop, binQ Tryd.prog w2 .mul 3 false (.int .i64 y) (.int .i64 (volt (lvsL L).length (wsL L) 0 ((lvsL L).length - 1) : Nat)) K = K (.int .i64 (x * H)) := fun K => by rw [fl.2]; exact r_mul _ _ (by omega) (by omega)
  have hself : ∀ q : Int, decide (q = q) = true := fun q => decide_eq_true rfl
  simp only [r_fa, Nat.zero_add, r_ld b0, r_ld b1, r_ld b2, iac, r_ld hc, iaq, r_ld q2, e1, e2, e3, e4, r_neq, hself, decide_true, Bool.not_true, r_gqFF, r_pickF, r_condF]
  rw [r_add _ _ (by omega) (by omega)]
  exact ⟨⟨i + 1, by omega, by go_num, k02⟩, by simp only [intOf]; omega⟩

set_option maxRecDepth 100000 in
set_option maxHeartbeats 2000000 in
theorem law_currents {v : Value} {L : List T3} (W H : Int) (W0 : World) (hw : Wh W0) (hr : RdS W0 v L) : Calls Tryd.prog 5 #[.int .i64 W, .int .i64 H, v] W0 fun e w' => e = .returned (.bool true) ∧ Kp W0 w' := by
  obtain ⟨va, vc, ev, _⟩ := hr.len
  have lnv : ∀ K : Value → Prop, ln1 v K = K (.int .i64 L.length) := fun K => by rw [ev]; rfl
  have fin : ∀ w' : World, Kp W0 w' → callW Tryd.prog (.func (.func 14) #[] #[]) [] w' fun t w1 => Ending.returned t = .returned (.bool true) ∧ Kp W0 w1 := fun w' k => by
    refine r_use fok14 (alive_calls w' (hw.kp k)) rfl ?_
    rintro _ w4 ⟨rfl, k4⟩
    exact ⟨_, rfl, rfl, Kp.trans k k4⟩
  refine lift5 ?_
  unfold S5
  rw [lnv]
  by_cases h40 : (40 : Int) < (L.length : Int)
  · simp (disch := omega) only [r_ln, r_pick, r_pickT, r_pickF, r_condT, r_condF, r_gdTT, r_gdFF, r_gdTF, r_gdFT, r_gqTT, r_gqFF, r_gqTF, r_gqFT, r_not, r_lss, r_leq, r_gtr, r_geq, r_eql, r_neq, r_add, r_sub, r_min2, r_max2, r_min3, r_max3, r_fa, r_iaS, r_iaA, r_ex2a, r_ex2b, r_ex3a, r_ex3b, r_ex3c, r_nc, r_keepE, Nat.zero_add, Nat.add_zero, Nat.mul_one, Int.toNat_natCast, toNat_sub1, toNat_add1, decide_true, decide_false, Bool.not_true, Bool.not_false, if_true, if_false, Bool.false_eq_true, reduceCtorEq, decide_eq_true h40]
    exact fin W0 (Kp.refl _)
  simp (disch := omega) only [r_ln, r_pick, r_pickT, r_pickF, r_condT, r_condF, r_gdTT, r_gdFF, r_gdTF, r_gdFT, r_gqTT, r_gqFF, r_gqTF, r_gqFT, r_not, r_lss, r_leq, r_gtr, r_geq, r_eql, r_neq, r_add, r_sub, r_min2, r_max2, r_min3, r_max3, r_fa, r_iaS, r_iaA, r_ex2a, r_ex2b, r_ex3a, r_ex3b, r_ex3c, r_nc, r_keepE, Nat.zero_add, Nat.add_zero, Nat.mul_one, Int.toNat_natCast, toNat_sub1, toNat_add1, decide_true, decide_false, Bool.not_true, Bool.not_false, if_true, if_false, Bool.false_eq_true, reduceCtorEq, h40]
  refine r_use fok17 (Network_calls W0 hr) rfl ?_
  rintro _ w1 ⟨k1, nv, rfl, hN⟩
  refine ⟨_, rfl, ?_⟩
  obtain ⟨na, nc, en, _⟩ := hN.len
  have lnn : ∀ K : Value → Prop, ln1 nv K = K (.int .i64 (nwW W H L).length) := fun K => by rw [en]; rfl
  have n00 : decide ((0 : Int) = 0) = true := rfl
  by_cases hE : nwE W H L = 0
  case neg =>
    have z1 : nwN W H L = 0 := by unfold nwN; rw [if_neg hE]
    have z2 : nwW W H L = [] := by unfold nwW; rw [if_neg hE]
    rw [z2] at lnn
    rw [z1]
    simp (disch := omega) only [r_ln, r_pick, r_pickT, r_pickF, r_condT, r_condF, r_gdTT, r_gdFF, r_gdTF, r_gdFT, r_gqTT, r_gqFF, r_gqTF, r_gqFT, r_not, r_lss, r_leq, r_gtr, r_geq, r_eql, r_neq, r_add, r_sub, r_min2, r_max2, r_min3, r_max3, r_fa, r_iaS, r_iaA, r_ex2a, r_ex2b, r_ex3a, r_ex3b, r_ex3c, r_nc, r_keepE, Nat.zero_add, Nat.add_zero, Nat.mul_one, Int.toNat_natCast, toNat_sub1, toNat_add1, decide_true, decide_false, Bool.not_true, Bool.not_false, if_true, if_false, Bool.false_eq_true, reduceCtorEq, hE, n00, lnn, List.length_nil, Int.natCast_zero, Int.ofNat_zero, Int.cast_ofNat_Int]
    refine r_use fok14 (alive_calls w1 (hw.kp k1)) rfl ?_
    rintro _ w4 ⟨rfl, k4⟩
    exact ⟨_, rfl, rfl, Kp.trans k1 k4⟩
  obtain ⟨d, hW, hH, h8, hl, z1, z2⟩ := nw_ok hE
  rw [z2] at lnn hN
  rw [hE, z1]
  have h2 := lv_two d
  simp (disch := omega) only [r_ln, r_pick, r_pickT, r_pickF, r_condT, r_condF, r_gdTT, r_gdFF, r_gdTF, r_gdFT, r_gqTT, r_gqFF, r_gqTF, r_gqFT, r_not, r_lss, r_leq, r_gtr, r_geq, r_eql, r_neq, r_add, r_sub, r_min2, r_max2, r_min3, r_max3, r_fa, r_iaS, r_iaA, r_ex2a, r_ex2b, r_ex3a, r_ex3b, r_ex3c, r_nc, r_keepE, Nat.zero_add, Nat.add_zero, Nat.mul_one, Int.toNat_natCast, toNat_sub1, toNat_add1, decide_true, decide_false, Bool.not_true, Bool.not_false, if_true, if_false, Bool.false_eq_true, reduceCtorEq, n00]
  have hrw : RdW w1 nv (wiresL L) := hN.rd wC_len
  refine r_use fok22 (Through_calls (n := (lvsL L).length) (s := 0) (t := ((lvsL L).length : Int) - 1) w1 (hw.kp k1) hrw) rfl ?_
  rintro _ w2 ⟨k2, cv, rfl, hC⟩
  refine ⟨_, rfl, ?_⟩
  obtain ⟨tE, tT, tV, tC⟩ := nw_through d h8 hl
  rw [tE, tT, tV]
  rw [tC] at hC
  rw [r_ex2a, r_ex2b]
  obtain ⟨ca, cc, ecv, _⟩ := hC.len
  have hwl : (wsL L).length = L.length := by simp [wsL]
  have hwl2 : (wiresL L).length = L.length := by simp [wiresL]
  have hfl : (flowC (lvsL L).length (wsL L) 0 ((lvsL L).length - 1)).length = L.length := by simp [flowC, hwl]
  have lnc : ∀ K : Value → Prop, ln1 cv K = K (.int .i64 L.length) := fun K => by rw [ecv, hfl]; rfl
  refine r_box fun b9 w3 e9 s9 h9 k3 => ?_
  have h9' : w3.heap[b9]? = some (.cells #[.slice none 0 0, .int .i64 0, .int .i64 0] 36 (0, 0)) := h9
  have k02 := Kp.trans k1 k2
  have sz2 := k02.size
  rw [ecv]
  refine st36 h9' fun w4 c4 s4 h94 => ?_
  rw [← ecv] at h94
  have k24 : Kp w2 w4 := Kp.of_chg k3 c4 fun q e => by omega
  have k04 := Kp.trans k02 k24
  have b0 : w4.cell? ⟨b9, 0, none⟩ = some cv := by rw [cell_row h94]; rfl
  have b1 : w4.cell? ⟨b9, 1, none⟩ = some (.int .i64 (trees (lvsL L).length (wsL L) : Nat)) := by rw [cell_row h94]; rfl
  have hself : ∀ q : Int, decide (q = q) = true := fun q => decide_eq_true rfl
  have ht := wsL_trees d
  have t1 : ¬ ((trees (lvsL L).length (wsL L) : Nat) : Int) < 1 := by omega
  simp only [r_neq, hself, decide_true, n00, Bool.not_true, r_gdFF, r_fa, Nat.zero_add, r_ld b0, r_ld b1, lnc, lnv, lnn, hwl2, r_pickF, r_lss, decide_eq_false t1, r_condF]
  have rC : RdInts w4 cv (flowC (lvsL L).length (wsL L) 0 ((lvsL L).length - 1)) := Rd.ints ((RecAt.kp hC k24).rd iC_len) (by rw [hfl]; omega)
  exact r5_0 d hW hl hw k04 (hr.kp k04) rC h94

end Go.Proofs.YtkdcldbedbagjaaDoor
