/- Contracts: same, wired, squares, few, nine, alive of the statements. -/
import Derived.Test.YtkdcldbedbagjaaDoorMe
import Derived.Test.YtkdcldbedbagjaaDoorKl
import Derived.Test.YtkdcldbedbagjaaDoorSc
import Derived.Test.YtkdcldbedbagjaaDoorSd
set_option linter.all false
namespace Go.Proofs.YtkdcldbedbagjaaDoor
open Go.Lf Go.RowKit Go.Dt

theorem eq_take {α : Type} [DecidableEq α] {a b : List α} (d : α) (hl : a.length = b.length) (h : ∀ i, i < a.length → a.getD i d = b.getD i d) : a = b := by
  refine List.ext_getElem hl fun i h1 h2 => ?_
  have := h i h1
  rwa [getD_lt _ _ _ h1, getD_lt _ _ _ h2] at this
theorem ne_at {α : Type} [DecidableEq α] {a b : List α} (d : α) {i : Nat} (h : ¬ a.getD i d = b.getD i d) : ¬ a = b := fun e => h (by rw [e])

set_option maxRecDepth 100000 in
theorem same_calls {va vb : Value} {a b : List Int} (w : World) (ha : RdInts w va a) (hb : RdInts w vb b) : Calls Tryd.prog 29 #[va, vb] w fun e w' => e = .returned (.bool (decide (a = b))) ∧ Kp w w' := by
  obtain ⟨aa, ac, ea, hal, _⟩ := ha.len
  obtain ⟨ba, bc, eb, hbl, _⟩ := hb.len
  have lna : ∀ K : Value → Prop, ln1 va K = K (.int .i64 a.length) := fun K => by rw [ea]; rfl
  have lnb : ∀ K : Value → Prop, ln1 vb K = K (.int .i64 b.length) := fun K => by rw [eb]; rfl
  refine lift29 ?_
  unfold S29
  rw [lna, lnb, r_neq]
  by_cases hl : a.length = b.length
  case neg =>
    have hl' : ¬ (a.length : Int) = (b.length : Int) := by omega
    rw [decide_eq_false hl', Bool.not_false, r_condT]
    exact ⟨ret_bool (decide_eq_false fun e => hl (by rw [e])).symm, Kp.refl _⟩
  have hl' : (a.length : Int) = (b.length : Int) := by omega
  rw [decide_eq_true hl', Bool.not_true, r_condF]
  unfold S29L0
  refine ⟨fun t5 wr => ∃ i : Nat, i ≤ a.length ∧ t5 = .int .i64 i ∧ (∀ j, j < i → a.getD j 0 = b.getD j 0) ∧ Kp w wr, fun t5 _ => a.length - (intOf t5).toNat, ⟨0, by omega, rfl, fun j hj => by omega, Kp.refl _⟩, ?_⟩
  rintro _ _ wr ⟨i, hi, rfl, he, kr⟩
  rw [lna]
  by_cases hlt : i < a.length
  case neg =>
    have hlt' : ¬ (i : Int) < (a.length : Int) := by omega
    simp only [r_lss, hlt', decide_false, r_condF]
    exact ⟨ret_bool (decide_eq_true (eq_take 0 hl fun j hj => he j (by omega))).symm, kr⟩
  have hlt' : (i : Int) < (a.length : Int) := by omega
  simp only [r_lss, decide_eq_true hlt', r_condT]
  refine r_drew fun w2 k2 _ => ?_
  have k02 := Kp.trans kr k2
  rw [ints_ldK (ha.below k02) hlt, ints_ldK (hb.below k02) (by omega), r_neq]
  by_cases hx : a.getD i 0 = b.getD i 0
  · rw [decide_eq_true hx, Bool.not_true, r_condF, r_add _ _ (by omega) (by omega)]
    refine ⟨⟨i + 1, by omega, by go_num, fun j hj => ?_, k02⟩, by simp only [intOf]; omega⟩
    by_cases e : j = i
    · rw [e]; exact hx
    · exact he j (by omega)
  · rw [decide_eq_false hx, Bool.not_false, r_condT]
    exact ⟨ret_bool (decide_eq_false (ne_at 0 hx)).symm, k02⟩

theorem pair_eta (p : Int × Int) : wV p.1 p.2 = paV2 p := rfl
set_option maxRecDepth 100000 in
theorem wired_calls {va vb : Value} {a b : List (Int × Int)} (w : World) (ha : RdW w va a) (hb : RdW w vb b) (hs : a.length ≤ 1000000) : Calls Tryd.prog 19 #[va, vb] w fun e w' => e = .returned (.bool (decide (a = b))) ∧ Kp w w' := by
  obtain ⟨aa, ac, ea, _⟩ := ha.len
  obtain ⟨ba, bc, eb, _⟩ := hb.len
  have lna : ∀ K : Value → Prop, ln1 va K = K (.int .i64 a.length) := fun K => by rw [ea]; rfl
  have lnb : ∀ K : Value → Prop, ln1 vb K = K (.int .i64 b.length) := fun K => by rw [eb]; rfl
  refine lift19 ?_
  unfold S19
  rw [lna, lnb, r_neq]
  by_cases hl : a.length = b.length
  case neg =>
    have hl' : ¬ (a.length : Int) = (b.length : Int) := by omega
    rw [decide_eq_false hl', Bool.not_false, r_condT]
    exact ⟨ret_bool (decide_eq_false fun e => hl (by rw [e])).symm, Kp.refl _⟩
  have hl' : (a.length : Int) = (b.length : Int) := by omega
  rw [decide_eq_true hl', Bool.not_true, r_condF]
  unfold S19L0
  refine ⟨fun t5 wr => ∃ i : Nat, i ≤ a.length ∧ t5 = .int .i64 i ∧ (∀ j, j < i → a.getD j (0, 0) = b.getD j (0, 0)) ∧ Kp w wr, fun t5 _ => a.length - (intOf t5).toNat, ⟨0, by omega, rfl, fun j hj => by omega, Kp.refl _⟩, ?_⟩
  rintro _ _ wr ⟨i, hi, rfl, he, kr⟩
  rw [lna]
  by_cases hlt : i < a.length
  case neg =>
    have hlt' : ¬ (i : Int) < (a.length : Int) := by omega
    simp only [r_lss, hlt', decide_false, r_condF]
    exact ⟨ret_bool (decide_eq_true (eq_take (0, 0) hl fun j hj => he j (by omega))).symm, kr⟩
  have hlt' : (i : Int) < (a.length : Int) := by omega
  simp only [r_lss, decide_eq_true hlt', r_condT]
  refine r_drew fun w2 k2 _ => ?_
  have k02 := Kp.trans kr k2
  rw [wireZ_at (ha.kp k02) hlt, wireZ_at (hb.kp k02) (by omega), pair_eta, pair_eta, r_ne40]
  by_cases hx : a.getD i (0, 0) = b.getD i (0, 0)
  · rw [decide_eq_true hx, Bool.not_true, r_condF, r_add _ _ (by omega) (by omega)]
    refine ⟨⟨i + 1, by omega, by go_num, fun j hj => ?_, k02⟩, by simp only [intOf]; omega⟩
    by_cases e : j = i
    · rw [e]; exact hx
    · exact he j (by omega)
  · rw [decide_eq_false hx, Bool.not_false, r_condT]
    exact ⟨ret_bool (decide_eq_false (ne_at (0, 0) hx)).symm, k02⟩

set_option maxRecDepth 100000 in
theorem squares_calls {va vb : Value} {a b : List T3} (w : World) (ha : RdS w va a) (hb : RdS w vb b) (hs : a.length ≤ 1000000) : Calls Tryd.prog 20 #[va, vb] w fun e w' => e = .returned (.bool (decide (a = b))) ∧ Kp w w' := by
  obtain ⟨aa, ac, ea, _⟩ := ha.len
  obtain ⟨ba, bc, eb, _⟩ := hb.len
  have lna : ∀ K : Value → Prop, ln1 va K = K (.int .i64 a.length) := fun K => by rw [ea]; rfl
  have lnb : ∀ K : Value → Prop, ln1 vb K = K (.int .i64 b.length) := fun K => by rw [eb]; rfl
  refine lift20 ?_
  unfold S20
  rw [lna, lnb, r_neq]
  by_cases hl : a.length = b.length
  case neg =>
    have hl' : ¬ (a.length : Int) = (b.length : Int) := by omega
    rw [decide_eq_false hl', Bool.not_false, r_condT]
    exact ⟨ret_bool (decide_eq_false fun e => hl (by rw [e])).symm, Kp.refl _⟩
  have hl' : (a.length : Int) = (b.length : Int) := by omega
  rw [decide_eq_true hl', Bool.not_true, r_condF]
  unfold S20L0
  refine ⟨fun t5 wr => ∃ i : Nat, i ≤ a.length ∧ t5 = .int .i64 i ∧ (∀ j, j < i → a.getD j (0, 0, 0) = b.getD j (0, 0, 0)) ∧ Kp w wr, fun t5 _ => a.length - (intOf t5).toNat, ⟨0, by omega, rfl, fun j hj => by omega, Kp.refl _⟩, ?_⟩
  rintro _ _ wr ⟨i, hi, rfl, he, kr⟩
  rw [lna]
  by_cases hlt : i < a.length
  case neg =>
    have hlt' : ¬ (i : Int) < (a.length : Int) := by omega
    simp only [r_lss, hlt', decide_false, r_condF]
    exact ⟨ret_bool (decide_eq_true (eq_take (0, 0, 0) hl fun j hj => he j (by omega))).symm, kr⟩
  have hlt' : (i : Int) < (a.length : Int) := by omega
  simp only [r_lss, decide_eq_true hlt', r_condT]
  refine r_drew fun w2 k2 _ => ?_
  have k02 := Kp.trans kr k2
  rw [tri_at (ha.kp k02) hlt, tri_at (hb.kp k02) (by omega), r_ne44]
  by_cases hx : a.getD i (0, 0, 0) = b.getD i (0, 0, 0)
  · rw [decide_eq_true hx, Bool.not_true, r_condF, r_add _ _ (by omega) (by omega)]
    refine ⟨⟨i + 1, by omega, by go_num, fun j hj => ?_, k02⟩, by simp only [intOf]; omega⟩
    by_cases e : j = i
    · rw [e]; exact hx
    · exact he j (by omega)
  · rw [decide_eq_false hx, Bool.not_false, r_condT]
    exact ⟨ret_bool (decide_eq_false (ne_at (0, 0, 0) hx)).symm, k02⟩

theorem few_calls {v : Value} {L : List (Int × Int)} (w : World) (hr : RdW w v L) : Calls Tryd.prog 21 #[v] w fun e w' => e = .returned (.bool (decide (L.length ≤ 40))) ∧ w = w' := by
  obtain ⟨a, cap, ev, _⟩ := hr.len
  refine lift21 ?_
  unfold S21
  rw [ev, r_ln, r_leq]
  exact ⟨ret_bool (decide_eq_decide.2 (by omega)), rfl⟩

/-! ### alive -/
def nineL : List T3 := [(0, 0, 18), (18, 0, 15), (18, 15, 7), (25, 15, 8), (0, 18, 14), (14, 18, 4), (14, 22, 10), (24, 22, 1), (24, 23, 9)]
set_option maxRecDepth 100000 in
theorem nine_calls (w : World) : Calls Tryd.prog 41 #[] w fun e w' => Kp w w' ∧ ∃ v, e = .returned v ∧ RdS w' v nineL := by
  refine lift41 ?_
  have e : S41 w (fun e w' => Kp w w' ∧ ∃ v, e = .returned v ∧ RdS w' v nineL) = (Kp w (w.alloc (.cells (recCells t3C nineL).toArray 44)) ∧ ∃ v, Ending.returned (.slice (some ⟨w.heap.size, 0, none⟩) 9 9) = .returned v ∧ RdS (w.alloc (.cells (recCells t3C nineL).toArray 44)) v nineL) := by kernel_rfl
  rw [e]
  exact ⟨below_alloc _, _, rfl, (rec_alloc t3C_len nineL (by decide) w).rd t3C_len⟩

def ringL : List (Int × Int) := [(0, 1), (1, 2), (2, 0)]
def ringW : List Wr := [(0, 1), (1, 2), (2, 0)]
theorem ring_wf : Wf 3 ringW := by
  intro e he
  simp only [ringW, List.mem_cons, List.not_mem_nil, or_false] at he
  rcases he with rfl | rfl | rfl <;> decide
theorem ring_trees : trees 3 ringW = 3 := by
  have h := det_trees (n := 3) (t := 0) ring_wf (by decide)
  have e : det 3 (MS (Dt.one 0) ringW) = 3 := by decide
  omega
theorem ring_volt : volt 3 ringW 0 1 = 2 := by
  have h := det_volt (n := 3) (s := 0) (t := 1) ring_wf
  have e : det 3 (MS (ins (Dt.one 1) 0) ringW) = 2 := by decide
  omega
theorem ring_flow : flowC 3 ringW 0 1 = [2, -1, -1] := by
  have h0 : pot 3 ringW 0 1 0 = 2 := by rw [pot_s (by decide), ring_volt]
  have h1 : pot 3 ringW 0 1 1 = 0 := pot_t
  have h2 : pot 3 ringW 0 1 2 = 1 := by
    have h := det_pot (n := 3) (s := 0) (t := 1) (v := 2) ring_wf (by decide) (by decide) (by decide) (by decide)
    have e : det 3 (setCol (MS (Dt.one 1) ringW) 2 (unit 0)) = 1 := by decide
    omega
  have e : flowC 3 ringW 0 1 = [(pot 3 ringW 0 1 0 : Int) - pot 3 ringW 0 1 1, (pot 3 ringW 0 1 1 : Int) - pot 3 ringW 0 1 2, (pot 3 ringW 0 1 2 : Int) - pot 3 ringW 0 1 0] := rfl
  rw [e, h0, h1, h2]; rfl
set_option maxRecDepth 100000 in
theorem nine_net : nwE 33 32 nineL = 0 ∧ (lvsL nineL).length = 6 := by decide +kernel
set_option maxRecDepth 100000 in
theorem bs27_3 (w : World) (K : Value → World → Prop) : bsW Tryd.prog 27 3 [(0, wV 0 1), (1, wV 1 2), (2, wV 2 0)] w K = K (.slice (some ⟨w.heap.size, 0, none⟩) 3 3) (w.alloc (.cells (recCells wC ringL).toArray 40)) := by kernel_rfl
set_option maxRecDepth 100000 in
theorem bs34_3 (x y z : Int) (w : World) (K : Value → World → Prop) : bsW Tryd.prog 34 3 [(0, .int .i64 x), (1, .int .i64 y), (2, .int .i64 z)] w K = K (.slice (some ⟨w.heap.size, 0, none⟩) 3 3) (w.alloc (.cells (recCells iC [x, y, z]).toArray 3)) := by kernel_rfl

set_option maxRecDepth 100000 in
set_option maxHeartbeats 2000000 in
theorem alive_calls (w : World) (hw : Wh w) : Calls Tryd.prog 14 #[] w fun e w' => e = .returned (.bool true) ∧ Kp w w' := by
  refine lift14 ?_
  unfold S14
  rw [bd40, bd40, bd40, bs27_3]
  have k1 : Kp w (w.alloc (.cells (recCells wC ringL).toArray 40)) := below_alloc _
  have hr := (rec_alloc (e := 40) wC_len ringL (by decide) w).rd wC_len
  have hl3 : ringL.length = 3 := rfl
  rw [hl3] at hr
  generalize w.alloc (.cells (recCells wC ringL).toArray 40) = w1 at *
  have hE : netErr 3 ringL = 0 := by decide
  have hM : ringL.map natW = ringW := rfl
  have hE2 : endErr 3 ringL 0 1 = 0 := by decide
  have hT : treesV 3 ringL = 3 := by unfold treesV; rw [if_pos hE, hM]; have := ring_trees; show ((trees 3 ringW : Nat) : Int) = 3; omega
  have htE : thE 3 ringL 0 1 = 0 := by unfold thE; rw [if_pos hE2, hM]; exact if_neg (by have := ring_trees; show ¬ trees 3 ringW = 0; omega)
  have htV : thV 3 ringL 0 1 = 2 := by unfold thV; rw [if_pos htE, hM]; have := ring_volt; show ((volt 3 ringW 0 1 : Nat) : Int) = 2; omega
  have htC : thC 3 ringL 0 1 = [2, -1, -1] := by unfold thC; rw [if_pos htE, hM]; exact ring_flow
  refine r_use fok24 (Trees_calls (n := 3) w1 (hw.kp k1) hr) rfl ?_
  rintro _ w2 ⟨k2, rfl⟩
  refine ⟨_, rfl, ?_⟩
  rw [r_ex2a, r_ex2b]
  have k02 := Kp.trans k1 k2
  refine r_use fok22 (Through_calls (n := 3) (s := 0) (t := 1) w2 (hw.kp k02) (hr.kp k2)) rfl ?_
  rintro _ w3 ⟨k3, cv, rfl, hC⟩
  refine ⟨_, rfl, ?_⟩
  rw [r_ex2a, r_ex2b]
  have k03 := Kp.trans k02 k3
  refine r_box fun b4 w4 e4 s4 h4 k4 => ?_
  have h4' : w4.heap[b4]? = some (.cells #[.slice none 0 0, .int .i64 0, .int .i64 0] 36 (0, 0)) := h4
  obtain ⟨ca, cc, ecv, _⟩ := hC.len
  have hsz3 := k03.size
  rw [ecv]
  refine st36 h4' fun w5 c5 s5 h45 => ?_
  rw [← ecv] at h45
  have k35 : Kp w3 w5 := Kp.of_chg k4 c5 fun q e => by omega
  have k05 := Kp.trans k03 k35
  refine r_use fok41 (nine_calls w5) rfl ?_
  rintro _ w6 ⟨k6, nv, rfl, hn⟩
  refine ⟨_, rfl, ?_⟩
  refine r_use fok17 (Network_calls (W := 33) (H := 32) w6 hn) rfl ?_
  rintro _ w7 ⟨k7, nw, rfl, hN⟩
  refine ⟨_, rfl, ?_⟩
  rw [r_ex3a, r_ex3b, r_ex3c]
  have k57 := Kp.trans k6 k7
  have k07 := Kp.trans k05 k57
  have h47 := block_below h45 k57
  have c40 : w7.cell? ⟨b4, 0, none⟩ = some cv := by rw [cell_row h47]; rfl
  have c42 : w7.cell? ⟨b4, 2, none⟩ = some (.int .i64 (thV 3 ringL 0 1)) := by rw [cell_row h47]; rfl
  obtain ⟨n1, n2⟩ := nine_net
  have hNN : nwN 33 32 nineL = 6 := by unfold nwN; rw [if_pos n1, n2]; rfl
  have hNW : (nwW 33 32 nineL).length = 9 := by unfold nwW; rw [if_pos n1]; simp [wiresL, nineL]
  obtain ⟨na, nc, env, _⟩ := hN.len
  have lnn : ∀ K : Value → Prop, ln1 nw K = K (.int .i64 9) := fun K => by rw [env, hNW]; rfl
  rw [hE, hT, htE, n1, hNN]
  rw [htV] at c42
  have q0 : decide ((0 : Int) = 0) = true := rfl
  have q3 : decide ((3 : Int) = 3) = true := rfl
  have q2 : decide ((2 : Int) = 2) = true := rfl
  have q6 : decide ((6 : Int) = 6) = true := rfl
  have q9 : decide ((9 : Int) = 9) = true := rfl
  simp only [r_ln, r_pick, r_pickT, r_pickF, r_condT, r_condF, r_gdTT, r_gdFF, r_gdTF, r_gdFT, r_gqTT, r_gqFF, r_gqTF, r_gqFT, r_not, r_lss, r_leq, r_gtr, r_geq, r_eql, r_neq, r_add, r_sub, r_min2, r_max2, r_min3, r_max3, r_fa, r_iaS, r_iaA, r_ex2a, r_ex2b, r_ex3a, r_ex3b, r_ex3c, r_nc, r_keepE, Nat.zero_add, Nat.add_zero, Nat.mul_one, Int.toNat_natCast, toNat_sub1, toNat_add1, decide_true, decide_false, Bool.not_true, Bool.not_false, if_true, if_false, Bool.false_eq_true, reduceCtorEq, q0, q3, r_ld c40]
  rw [bs34_3]
  have k8 : Kp w7 (w7.alloc (.cells (recCells iC [2, -1, -1]).toArray 3)) := below_alloc _
  have h8 := (rec_alloc (e := 3) iC_len ([2, -1, -1] : List Int) (by decide) w7).rd iC_len
  generalize w7.alloc (.cells (recCells iC [2, -1, -1]).toArray 3) = w8 at *
  have hC8 := Rd.ints (((hC.kp (Kp.trans k35 k57)).kp k8).rd iC_len) (by rw [htC]; decide)
  rw [htC] at hC8
  refine r_use fok29 (same_calls w8 hC8 (Rd.ints h8 (by decide))) rfl ?_
  rintro _ w9 ⟨rfl, k9⟩
  refine ⟨_, rfl, ?_⟩
  have c429 := cell_later (Kp.trans k8 k9) c42
  have qs : decide (([2, -1, -1] : List Int) = [2, -1, -1]) = true := rfl
  rw [qs]
  simp only [r_ln, r_pick, r_pickT, r_pickF, r_condT, r_condF, r_gdTT, r_gdFF, r_gdTF, r_gdFT, r_gqTT, r_gqFF, r_gqTF, r_gqFT, r_not, r_lss, r_leq, r_gtr, r_geq, r_eql, r_neq, r_add, r_sub, r_min2, r_max2, r_min3, r_max3, r_fa, r_iaS, r_iaA, r_ex2a, r_ex2b, r_ex3a, r_ex3b, r_ex3c, r_nc, r_keepE, Nat.zero_add, Nat.add_zero, Nat.mul_one, Int.toNat_natCast, toNat_sub1, toNat_add1, decide_true, decide_false, Bool.not_true, Bool.not_false, if_true, if_false, Bool.false_eq_true, reduceCtorEq, q0, q2, q6, q9, r_ld c429, lnn]
  exact ⟨by first | rfl | trivial, Kp.trans k07 (Kp.trans k8 k9)⟩

end Go.Proofs.YtkdcldbedbagjaaDoor
