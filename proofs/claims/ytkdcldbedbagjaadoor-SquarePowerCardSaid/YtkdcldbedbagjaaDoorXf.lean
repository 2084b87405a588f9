/- Contracts of the statement SquareKirchhoff: laplacian, determinant. -/
import Derived.Test.YtkdcldbedbagjaaDoorXe
set_option linter.all false
namespace Go.Proofs.YtkdcldbedbagjaaDoor
open Go.Lf Go.RowKit Go.Dt

def SameW (a b : World) : Prop := a = b
theorem wire_two {w : World} {v : Value} {ws : List Wr} (h : Rd 2 wN w v ws) {k : Nat} (hk : k < ws.length) : ∃ b o, (∀ K : Value → Prop, iaS 2 v (.int .i64 k) K = K (.pointer (some ⟨b, o, none⟩))) ∧ w.cell? ⟨b, o + 0, none⟩ = some (.int .i64 (ws.getD k (0, 0)).1) ∧ w.cell? ⟨b, o + 1, none⟩ = some (.int .i64 (ws.getD k (0, 0)).2) := by
  obtain ⟨b, off, cap, e, _, hc⟩ := h.at (List.getElem?_eq_getElem hk)
  have hii : (k : Int).toNat = k := by omega
  refine ⟨b, off + k * 2, fun K => by rw [e, r_iaS _ _ _ _ _ _ _ (by omega) (by omega), hii], ?_, ?_⟩
  · rw [getD_lt _ _ _ hk]; exact hc 0 _ rfl
  · rw [getD_lt _ _ _ hk]; exact hc 1 _ rfl

theorem ends_val (e : Wr) (h : e.1 ≠ e.2) (i j : Nat) : ends e i * ends e j = if i = j then (if e.1 = i ∨ e.2 = i then 1 else 0) else (if (e.1 = i ∧ e.2 = j) ∨ (e.1 = j ∧ e.2 = i) then -1 else 0) := by
  obtain ⟨a, b⟩ := e
  simp only at h
  unfold ends
  have u : ∀ x y : Nat, unit x y = if x = y then 1 else 0 := fun x y => by
    show (if y = x then (1 : Int) else 0) = _
    by_cases h : x = y
    · rw [if_pos h, if_pos h.symm]
    · rw [if_neg h, if_neg (Ne.symm h)]
  simp only [u]
  by_cases h1 : a = i <;> by_cases h2 : b = i <;> by_cases h3 : a = j <;> by_cases h4 : b = j <;> by_cases h5 : i = j <;> first | omega | (have h6 : ¬ j = i := fun e => h5 e.symm; simp [h1, h2, h3, h4, h5, h6]) | simp [h1, h2, h3, h4, h5]

set_option maxRecDepth 100000 in
set_option maxHeartbeats 2000000 in
theorem r33_2 {n i j base : Nat} {ws : List Wr} {v t11 : Value} {l : List Int} {w : World} {k3 : Value → World → Prop} (hi : i < n) (hj : j < n) (hn : n ≤ 8) (hr : Rd 2 wN w v ws) (hwf : Wf n ws) (hws : ws.length ≤ 16)
    (hI : IntsAt base w t11 l) (hb : base ≤ w.heap.size) (hl : l.length ≤ 8) (hk : ∀ v' w', IntsAt base w' v' (l ++ [lap ws i j]) → Chg (fun q => t11.ownBlock = some q) w w' → k3 v' w') :
    S33L2 v (.int .i64 i) t11 (.int .i64 j) k3 w := by
  obtain ⟨va, vc, ev, _⟩ := hr.len
  have lnv : ∀ K : Value → Prop, ln1 v K = K (.int .i64 ws.length) := fun K => by rw [ev]; rfl
  unfold S33L2
  refine ⟨fun t13 t14 wr => ∃ k : Nat, k ≤ ws.length ∧ t13 = .int .i64 (lap (ws.take k) i j) ∧ t14 = .int .i64 k ∧ (lap (ws.take k) i j).natAbs ≤ k ∧ SameW w wr, fun _ t14 _ => ws.length - (intOf t14).toNat, ⟨0, by omega, rfl, rfl, by simp [lap], rfl⟩, ?_⟩
  rintro _ _ _ wr ⟨k, hk1, rfl, rfl, habs, heq⟩
  obtain rfl : w = wr := heq
  rw [lnv]
  by_cases hlt : k < ws.length
  case neg =>
    have hlt' : ¬ (k : Int) < (ws.length : Int) := by omega
    simp only [r_lss, decide_eq_false hlt', r_condF]
    rw [List.take_of_length_le (by omega)]
    refine r_pushRec (x := lap ws i j) slt34 iC_len rfl (bs34 _ _ _) (by intro u hu; simp [iC] at hu; rw [hu]; rfl) (by omega) hI (by omega) hb fun v' w' o1 c1 _ => ?_
    exact hk v' w' o1 c1
  have hlt' : (k : Int) < (ws.length : Int) := by omega
  simp only [r_lss, decide_eq_true hlt', r_condT]
  obtain ⟨b, o, ia, cA, cB⟩ := wire_two hr hlt
  have hw := hwf (ws.getD k (0, 0)) (by rw [getD_lt _ _ _ hlt]; exact List.getElem_mem hlt)
  have hts : ws.take (k + 1) = ws.take k ++ [ws.getD k (0, 0)] := by rw [List.take_succ_eq_append_getElem hlt, getD_lt _ _ _ hlt]
  have hnext : lap (ws.take (k + 1)) i j = lap (ws.take k) i j + ends (ws.getD k (0, 0)) i * ends (ws.getD k (0, 0)) j := by rw [hts, lap_snoc]
  have hval := ends_val (ws.getD k (0, 0)) hw.2.2 i j
  rw [Nat.add_zero] at cA
  generalize ws.getD k (0, 0) = e at *
  obtain ⟨A, B⟩ := e
  simp only at cA cB hw hval
  have close : ∀ x : Int, x = lap (ws.take (k + 1)) i j → (∃ k' : Nat, k' ≤ ws.length ∧ Value.int .i64 x = .int .i64 (lap (ws.take k') i j) ∧ Value.int .i64 ((k : Int) + 1) = .int .i64 k' ∧ (lap (ws.take k') i j).natAbs ≤ k' ∧ SameW w w) ∧ ws.length - (intOf (.int .i64 ((k : Int) + 1))).toNat < ws.length - (intOf (.int .i64 (k : Int))).toNat := fun x hx => by
    refine ⟨⟨k + 1, by omega, by rw [hx], by go_num, ?_, rfl⟩, by simp only [intOf]; omega⟩
    rw [hnext, hval]
    split <;> split <;> omega
  by_cases hij : i = j
  · subst hij
    rw [if_pos rfl] at hval
    by_cases hA : A = i
    · have hA' : (A : Int) = (i : Int) := by omega
      rw [if_pos (.inl hA)] at hval
      simp (disch := omega) only [r_ln, r_pick, r_pickT, r_pickF, r_condT, r_condF, r_gdTT, r_gdFF, r_gdTF, r_gdFT, r_gqTT, r_gqFF, r_gqTF, r_gqFT, r_not, r_lss, r_leq, r_gtr, r_geq, r_eql, r_neq, r_add, r_sub, r_min2, r_max2, r_min3, r_max3, r_fa, r_iaS, r_iaA, r_ex2a, r_ex2b, r_ex3a, r_ex3b, r_ex3c, r_nc, r_keepE, Nat.zero_add, Nat.add_zero, Nat.mul_one, Int.toNat_natCast, toNat_sub1, toNat_add1, decide_true, decide_false, Bool.not_true, Bool.not_false, if_true, if_false, Bool.false_eq_true, reduceCtorEq, Join, r_gdU, ia, r_ld cA, decide_eq_true hA']
      exact close _ (by rw [hnext, hval] <;> try omega)
    · have hA' : ¬ (A : Int) = (i : Int) := by omega
      by_cases hB : B = i
      · have hB' : (B : Int) = (i : Int) := by omega
        rw [if_pos (.inr hB)] at hval
        simp (disch := omega) only [r_ln, r_pick, r_pickT, r_pickF, r_condT, r_condF, r_gdTT, r_gdFF, r_gdTF, r_gdFT, r_gqTT, r_gqFF, r_gqTF, r_gqFT, r_not, r_lss, r_leq, r_gtr, r_geq, r_eql, r_neq, r_add, r_sub, r_min2, r_max2, r_min3, r_max3, r_fa, r_iaS, r_iaA, r_ex2a, r_ex2b, r_ex3a, r_ex3b, r_ex3c, r_nc, r_keepE, Nat.zero_add, Nat.add_zero, Nat.mul_one, Int.toNat_natCast, toNat_sub1, toNat_add1, decide_true, decide_false, Bool.not_true, Bool.not_false, if_true, if_false, Bool.false_eq_true, reduceCtorEq, Join, r_gdU, ia, r_ld cA, r_ld cB, hA', decide_eq_true hB']
        exact close _ (by rw [hnext, hval] <;> try omega)
      · have hB' : ¬ (B : Int) = (i : Int) := by omega
        rw [if_neg (by omega)] at hval
        simp (disch := omega) only [r_ln, r_pick, r_pickT, r_pickF, r_condT, r_condF, r_gdTT, r_gdFF, r_gdTF, r_gdFT, r_gqTT, r_gqFF, r_gqTF, r_gqFT, r_not, r_lss, r_leq, r_gtr, r_geq, r_eql, r_neq, r_add, r_sub, r_min2, r_max2, r_min3, r_max3, r_fa, r_iaS, r_iaA, r_ex2a, r_ex2b, r_ex3a, r_ex3b, r_ex3c, r_nc, r_keepE, Nat.zero_add, Nat.add_zero, Nat.mul_one, Int.toNat_natCast, toNat_sub1, toNat_add1, decide_true, decide_false, Bool.not_true, Bool.not_false, if_true, if_false, Bool.false_eq_true, reduceCtorEq, Join, r_gdU, ia, r_ld cA, r_ld cB, hA', hB']
        exact close _ (by rw [hnext, hval, Int.add_zero])
  · have hij' : ¬ (i : Int) = (j : Int) := by omega
    rw [if_neg hij] at hval
    by_cases hA : A = i
    · have hA' : (A : Int) = (i : Int) := by omega
      by_cases hB : B = j
      · have hB' : (B : Int) = (j : Int) := by omega
        rw [if_pos (.inl ⟨hA, hB⟩)] at hval
        simp (disch := omega) only [r_ln, r_pick, r_pickT, r_pickF, r_condT, r_condF, r_gdTT, r_gdFF, r_gdTF, r_gdFT, r_gqTT, r_gqFF, r_gqTF, r_gqFT, r_not, r_lss, r_leq, r_gtr, r_geq, r_eql, r_neq, r_add, r_sub, r_min2, r_max2, r_min3, r_max3, r_fa, r_iaS, r_iaA, r_ex2a, r_ex2b, r_ex3a, r_ex3b, r_ex3c, r_nc, r_keepE, Nat.zero_add, Nat.add_zero, Nat.mul_one, Int.toNat_natCast, toNat_sub1, toNat_add1, decide_true, decide_false, Bool.not_true, Bool.not_false, if_true, if_false, Bool.false_eq_true, reduceCtorEq, Join, r_gdU, ia, r_ld cA, r_ld cB, hij', decide_eq_true hA', decide_eq_true hB']
        exact close _ (by rw [hnext, hval] <;> try omega)
      · have hB' : ¬ (B : Int) = (j : Int) := by omega
        have hA2 : ¬ (A : Int) = (j : Int) := by omega
        rw [if_neg (by omega)] at hval
        simp (disch := omega) only [r_ln, r_pick, r_pickT, r_pickF, r_condT, r_condF, r_gdTT, r_gdFF, r_gdTF, r_gdFT, r_gqTT, r_gqFF, r_gqTF, r_gqFT, r_not, r_lss, r_leq, r_gtr, r_geq, r_eql, r_neq, r_add, r_sub, r_min2, r_max2, r_min3, r_max3, r_fa, r_iaS, r_iaA, r_ex2a, r_ex2b, r_ex3a, r_ex3b, r_ex3c, r_nc, r_keepE, Nat.zero_add, Nat.add_zero, Nat.mul_one, Int.toNat_natCast, toNat_sub1, toNat_add1, decide_true, decide_false, Bool.not_true, Bool.not_false, if_true, if_false, Bool.false_eq_true, reduceCtorEq, Join, r_gdU, ia, r_ld cA, r_ld cB, hij', decide_eq_true hA', hB', hA2]
        exact close _ (by rw [hnext, hval, Int.add_zero])
    · have hA' : ¬ (A : Int) = (i : Int) := by omega
      by_cases hA2 : A = j
      · have hA2' : (A : Int) = (j : Int) := by omega
        by_cases hB : B = i
        · have hB' : (B : Int) = (i : Int) := by omega
          rw [if_pos (.inr ⟨hA2, hB⟩)] at hval
          simp (disch := omega) only [r_ln, r_pick, r_pickT, r_pickF, r_condT, r_condF, r_gdTT, r_gdFF, r_gdTF, r_gdFT, r_gqTT, r_gqFF, r_gqTF, r_gqFT, r_not, r_lss, r_leq, r_gtr, r_geq, r_eql, r_neq, r_add, r_sub, r_min2, r_max2, r_min3, r_max3, r_fa, r_iaS, r_iaA, r_ex2a, r_ex2b, r_ex3a, r_ex3b, r_ex3c, r_nc, r_keepE, Nat.zero_add, Nat.add_zero, Nat.mul_one, Int.toNat_natCast, toNat_sub1, toNat_add1, decide_true, decide_false, Bool.not_true, Bool.not_false, if_true, if_false, Bool.false_eq_true, reduceCtorEq, Join, r_gdU, ia, r_ld cA, r_ld cB, hij', hA', decide_eq_true hA2', decide_eq_true hB']
          exact close _ (by rw [hnext, hval] <;> try omega)
        · have hB' : ¬ (B : Int) = (i : Int) := by omega
          rw [if_neg (by omega)] at hval
          simp (disch := omega) only [r_ln, r_pick, r_pickT, r_pickF, r_condT, r_condF, r_gdTT, r_gdFF, r_gdTF, r_gdFT, r_gqTT, r_gqFF, r_gqTF, r_gqFT, r_not, r_lss, r_leq, r_gtr, r_geq, r_eql, r_neq, r_add, r_sub, r_min2, r_max2, r_min3, r_max3, r_fa, r_iaS, r_iaA, r_ex2a, r_ex2b, r_ex3a, r_ex3b, r_ex3c, r_nc, r_keepE, Nat.zero_add, Nat.add_zero, Nat.mul_one, Int.toNat_natCast, toNat_sub1, toNat_add1, decide_true, decide_false, Bool.not_true, Bool.not_false, if_true, if_false, Bool.false_eq_true, reduceCtorEq, Join, r_gdU, ia, r_ld cA, r_ld cB, hij', hA', decide_eq_true hA2', hB']
          exact close _ (by rw [hnext, hval, Int.add_zero])
      · have hA2' : ¬ (A : Int) = (j : Int) := by omega
        rw [if_neg (by omega)] at hval
        simp (disch := omega) only [r_ln, r_pick, r_pickT, r_pickF, r_condT, r_condF, r_gdTT, r_gdFF, r_gdTF, r_gdFT, r_gqTT, r_gqFF, r_gqTF, r_gqFT, r_not, r_lss, r_leq, r_gtr, r_geq, r_eql, r_neq, r_add, r_sub, r_min2, r_max2, r_min3, r_max3, r_fa, r_iaS, r_iaA, r_ex2a, r_ex2b, r_ex3a, r_ex3b, r_ex3c, r_nc, r_keepE, Nat.zero_add, Nat.add_zero, Nat.mul_one, Int.toNat_natCast, toNat_sub1, toNat_add1, decide_true, decide_false, Bool.not_true, Bool.not_false, if_true, if_false, Bool.false_eq_true, reduceCtorEq, Join, r_gdU, ia, r_ld cA, r_ld cB, hij', hA', hA2']
        exact close _ (by rw [hnext, hval, Int.add_zero])

set_option maxRecDepth 100000 in
set_option maxHeartbeats 2000000 in
theorem r33_1 {n i s t base : Nat} {ws : List Wr} {v t9 : Value} {R : List (List Int)} {w : World} {k2 : Value → World → Prop} (hi : i < n) (hn : n ≤ 8) (hr : Rd 2 wN w v ws) (hwf : Wf n ws) (hws : ws.length ≤ 16)
    (hM : IMat base w t9 R) (hb : base ≤ w.heap.size) (hR : R.length ≤ 8) (hk : ∀ v' w', IMat base w' v' (R ++ [(keepN n [(s : Int), (t : Int)]).map fun j => lap ws i j]) → Chg (fun q => base ≤ q) w w' → k2 v' w') :
    S33L1 (.int .i64 n) v (.int .i64 s) (.int .i64 t) t9 (.int .i64 i) k2 w := by
  unfold S33L1
  refine ⟨fun t11 t12 wr => ∃ j : Nat, j ≤ n ∧ t12 = .int .i64 j ∧ IntsAt w.heap.size wr t11 ((keepN j [(s : Int), (t : Int)]).map fun j => lap ws i j) ∧ Kp w wr, fun _ t12 _ => n - (intOf t12).toNat, ⟨0, by omega, rfl, RecAt.nil, Kp.refl _⟩, ?_⟩
  rintro _ t11 _ wr ⟨j, hj, rfl, hP, kr⟩
  by_cases hlt : j < n
  case neg =>
    have hlt' : ¬ (j : Int) < (n : Int) := by omega
    obtain rfl : j = n := by omega
    simp only [r_lss, hlt', decide_false, r_condF]
    obtain ⟨pa, pc, ep, _⟩ := hP.len
    rw [ep]
    rw [ep] at hP
    refine r_pushMat hM kr hP (Nat.le_refl _) (by omega) hb fun v' w' o1 c1 _ => ?_
    obtain ⟨vs, hv1, _⟩ := hM
    refine hk v' w' o1 ((Chg.of_kp kr).trans (c1.mono fun q _ hq => (hv1.lt hq).1))
  have hlt' : (j : Int) < (n : Int) := by omega
  simp only [r_lss, decide_eq_true hlt', r_condT]
  have hks := keepN_succ j [(s : Int), (t : Int)]
  have hkl := keepN_le j [(s : Int), (t : Int)]
  have hsz := kr.size
  refine r_join1 (fun v w3 => IntsAt w.heap.size w3 v ((keepN (j + 1) [(s : Int), (t : Int)]).map fun j => lap ws i j) ∧ Kp w w3) ?_ fun kk hkk => ?_
  · rintro v w3 ⟨g1, g2⟩
    rw [r_add _ _ (by omega) (by omega)]
    exact ⟨⟨j + 1, by omega, by go_num, g1, g2⟩, by simp only [intOf]; omega⟩
  by_cases hs : (j : Int) = (s : Int)
  · rw [if_pos (by simp [hs]), List.append_nil] at hks
    rw [hks] at hkk
    simp (disch := omega) only [r_ln, r_pick, r_pickT, r_pickF, r_condT, r_condF, r_gdTT, r_gdFF, r_gdTF, r_gdFT, r_gqTT, r_gqFF, r_gqTF, r_gqFT, r_not, r_lss, r_leq, r_gtr, r_geq, r_eql, r_neq, r_add, r_sub, r_min2, r_max2, r_min3, r_max3, r_fa, r_iaS, r_iaA, r_ex2a, r_ex2b, r_ex3a, r_ex3b, r_ex3c, r_nc, r_keepE, Nat.zero_add, Nat.add_zero, Nat.mul_one, Int.toNat_natCast, toNat_sub1, toNat_add1, decide_true, decide_false, Bool.not_true, Bool.not_false, if_true, if_false, Bool.false_eq_true, reduceCtorEq, r_gdU, decide_eq_true hs]
    exact hkk _ _ ⟨hP, kr⟩
  by_cases ht : (j : Int) = (t : Int)
  · rw [if_pos (by simp [ht]), List.append_nil] at hks
    rw [hks] at hkk
    simp (disch := omega) only [r_ln, r_pick, r_pickT, r_pickF, r_condT, r_condF, r_gdTT, r_gdFF, r_gdTF, r_gdFT, r_gqTT, r_gqFF, r_gqTF, r_gqFT, r_not, r_lss, r_leq, r_gtr, r_geq, r_eql, r_neq, r_add, r_sub, r_min2, r_max2, r_min3, r_max3, r_fa, r_iaS, r_iaA, r_ex2a, r_ex2b, r_ex3a, r_ex3b, r_ex3c, r_nc, r_keepE, Nat.zero_add, Nat.add_zero, Nat.mul_one, Int.toNat_natCast, toNat_sub1, toNat_add1, decide_true, decide_false, Bool.not_true, Bool.not_false, if_true, if_false, Bool.false_eq_true, reduceCtorEq, r_gdU, hs, decide_eq_true ht]
    exact hkk _ _ ⟨hP, kr⟩
  · rw [if_neg (by simp only [List.mem_cons, List.not_mem_nil, or_false]; omega)] at hks
    simp (disch := omega) only [r_ln, r_pick, r_pickT, r_pickF, r_condT, r_condF, r_gdTT, r_gdFF, r_gdTF, r_gdFT, r_gqTT, r_gqFF, r_gqTF, r_gqFT, r_not, r_lss, r_leq, r_gtr, r_geq, r_eql, r_neq, r_add, r_sub, r_min2, r_max2, r_min3, r_max3, r_fa, r_iaS, r_iaA, r_ex2a, r_ex2b, r_ex3a, r_ex3b, r_ex3c, r_nc, r_keepE, Nat.zero_add, Nat.add_zero, Nat.mul_one, Int.toNat_natCast, toNat_sub1, toNat_add1, decide_true, decide_false, Bool.not_true, Bool.not_false, if_true, if_false, Bool.false_eq_true, reduceCtorEq, r_gdU, hs, ht]
    refine r33_2 hi hlt hn (hr.kp kr) hwf hws hP hsz (by rw [List.length_map]; omega) fun v' w' o1 c1 => ?_
    exact hkk _ _ ⟨by rw [hks, List.map_append]; exact o1, Kp.of_chg kr c1 fun q hq => (hP.lt hq).1⟩

set_option maxRecDepth 100000 in
set_option maxHeartbeats 2000000 in
theorem laplacian_calls {n s t : Nat} {ws : List Wr} {v : Value} (w : World) (hN : NetOk n ws) (hr : Rd 2 wN w v ws) :
    Calls Tryd.prog 33 #[.int .i64 n, v, .int .i64 s, .int .i64 t] w fun e w' => Kp w w' ∧ ∃ v', e = .returned v' ∧ IMat w.heap.size w' v' (redM n [(s : Int), (t : Int)] (lap ws)) := by
  have h8 := hN.most
  refine lift33 ?_
  unfold S33 S33L0
  refine ⟨fun t9 t10 wr => ∃ i : Nat, i ≤ n ∧ t10 = .int .i64 i ∧ IMat w.heap.size wr t9 ((keepN i [(s : Int), (t : Int)]).map fun i => (keepN n [(s : Int), (t : Int)]).map fun j => lap ws i j) ∧ Kp w wr, fun _ t10 _ => n - (intOf t10).toNat, ⟨0, by omega, rfl, IMat.nil, Kp.refl _⟩, ?_⟩
  rintro _ t9 _ wr ⟨i, hi, rfl, hP, kr⟩
  by_cases hlt : i < n
  case neg =>
    have hlt' : ¬ (i : Int) < (n : Int) := by omega
    obtain rfl : i = n := by omega
    simp only [r_lss, hlt', decide_false, r_condF]
    exact ⟨kr, _, rfl, hP⟩
  have hlt' : (i : Int) < (n : Int) := by omega
  simp only [r_lss, decide_eq_true hlt', r_condT]
  have hks := keepN_succ i [(s : Int), (t : Int)]
  have hkl := keepN_le i [(s : Int), (t : Int)]
  have hsz := kr.size
  refine r_join1 (fun v w3 => IMat w.heap.size w3 v ((keepN (i + 1) [(s : Int), (t : Int)]).map fun i => (keepN n [(s : Int), (t : Int)]).map fun j => lap ws i j) ∧ Kp w w3) ?_ fun kk hkk => ?_
  · rintro v w3 ⟨g1, g2⟩
    rw [r_add _ _ (by omega) (by omega)]
    exact ⟨⟨i + 1, by omega, by go_num, g1, g2⟩, by simp only [intOf]; omega⟩
  by_cases hs : (i : Int) = (s : Int)
  · rw [if_pos (by simp [hs]), List.append_nil] at hks
    rw [hks] at hkk
    simp (disch := omega) only [r_ln, r_pick, r_pickT, r_pickF, r_condT, r_condF, r_gdTT, r_gdFF, r_gdTF, r_gdFT, r_gqTT, r_gqFF, r_gqTF, r_gqFT, r_not, r_lss, r_leq, r_gtr, r_geq, r_eql, r_neq, r_add, r_sub, r_min2, r_max2, r_min3, r_max3, r_fa, r_iaS, r_iaA, r_ex2a, r_ex2b, r_ex3a, r_ex3b, r_ex3c, r_nc, r_keepE, Nat.zero_add, Nat.add_zero, Nat.mul_one, Int.toNat_natCast, toNat_sub1, toNat_add1, decide_true, decide_false, Bool.not_true, Bool.not_false, if_true, if_false, Bool.false_eq_true, reduceCtorEq, r_gdU, decide_eq_true hs]
    exact hkk _ _ ⟨hP, kr⟩
  by_cases ht : (i : Int) = (t : Int)
  · rw [if_pos (by simp [ht]), List.append_nil] at hks
    rw [hks] at hkk
    simp (disch := omega) only [r_ln, r_pick, r_pickT, r_pickF, r_condT, r_condF, r_gdTT, r_gdFF, r_gdTF, r_gdFT, r_gqTT, r_gqFF, r_gqTF, r_gqFT, r_not, r_lss, r_leq, r_gtr, r_geq, r_eql, r_neq, r_add, r_sub, r_min2, r_max2, r_min3, r_max3, r_fa, r_iaS, r_iaA, r_ex2a, r_ex2b, r_ex3a, r_ex3b, r_ex3c, r_nc, r_keepE, Nat.zero_add, Nat.add_zero, Nat.mul_one, Int.toNat_natCast, toNat_sub1, toNat_add1, decide_true, decide_false, Bool.not_true, Bool.not_false, if_true, if_false, Bool.false_eq_true, reduceCtorEq, r_gdU, hs, decide_eq_true ht]
    exact hkk _ _ ⟨hP, kr⟩
  · rw [if_neg (by simp only [List.mem_cons, List.not_mem_nil, or_false]; omega)] at hks
    simp (disch := omega) only [r_ln, r_pick, r_pickT, r_pickF, r_condT, r_condF, r_gdTT, r_gdFF, r_gdTF, r_gdFT, r_gqTT, r_gqFF, r_gqTF, r_gqFT, r_not, r_lss, r_leq, r_gtr, r_geq, r_eql, r_neq, r_add, r_sub, r_min2, r_max2, r_min3, r_max3, r_fa, r_iaS, r_iaA, r_ex2a, r_ex2b, r_ex3a, r_ex3b, r_ex3c, r_nc, r_keepE, Nat.zero_add, Nat.add_zero, Nat.mul_one, Int.toNat_natCast, toNat_sub1, toNat_add1, decide_true, decide_false, Bool.not_true, Bool.not_false, if_true, if_false, Bool.false_eq_true, reduceCtorEq, r_gdU, hs, ht]
    refine r33_1 hlt h8 (hr.kp kr) hN.wf hN.few hP hsz (by rw [List.length_map]; omega) fun v' w' o1 c1 => ?_
    exact hkk _ _ ⟨by rw [hks, List.map_append]; exact o1, Kp.of_chg kr c1 fun q hq => hq⟩

end Go.Proofs.YtkdcldbedbagjaaDoor
