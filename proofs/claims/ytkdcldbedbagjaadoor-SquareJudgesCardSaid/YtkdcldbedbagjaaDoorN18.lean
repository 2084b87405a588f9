/- Texts of my own, merged by program: Xf Xi Gf. -/
import Derived.Test.YtkdcldbedbagjaaDoorN17
import Derived.Test.YtkdcldbedbagjaaDoorN16
import Derived.Test.YtkdcldbedbagjaaDoorN13
import Derived.Test.YtkdcldbedbagjaaDoorN15
set_option linter.all false
/- Contracts of the statement SquareKirchhoff: laplacian, determinant. -/
namespace Go.Proofs.YtkdcldbedbagjaaDoor
open Go.Lf Go.RowKit Go.Dt

def SameW (a b : World) : Prop := a = b
theorem wire_two {w : World} {v : Value} {ws : List Wr} (h : Rd 2 wN w v ws) {k : Nat} (hk : k < ws.length) : ∃ b o, (∀ K : Value → Prop, iaS 2 v (.int .i64 k) K = K (.pointer (some ⟨b, o, none⟩))) ∧ w.cell? ⟨b, o + 0, none⟩ = some (.int .i64 (ws.getD k (0, 0)).1) ∧ w.cell? ⟨b, o + 1, none⟩ = some (.int .i64 (ws.getD k (0, 0)).2) := by
  obtain ⟨b, off, cap, e, _, hc⟩ := h.at (List.getElem?_eq_getElem hk)
  have hii : (k : Int).toNat = k := by omega
  refine ⟨b, off + k * 2, fun K => by rw [e, r_iaS _ _ _ _ _ _ _ (by omega) (by omega), hii], ?_, ?_⟩
  · rw [getD_lt _ _ _ hk]; exact hc 0 _ rfl
  · rw [getD_lt _ _ _ hk]; exact hc 1 _ rfl

theorem ends_val (e : Wr) (h : e.1 ≠ e.2) (i j : Nat) : ends e i * ends e j = if i = j then (if e.1 = i ∨ e.2 = i then 1 else 0) else (if (e.1 = i ∧ e.2 = j) ∨ (e.1 = j ∧ e.2 = i) then -1 else 0) := by
  obtain ⟨a, b⟩ := e
  simp only at h
  unfold ends
  have u : ∀ x y : Nat, unit x y = if x = y then 1 else 0 := fun x y => by
    show (if y = x then (1 : Int) else 0) = _
    by_cases h : x = y
    · rw [if_pos h, if_pos h.symm]
    · rw [if_neg h, if_neg (Ne.symm h)]
  simp only [u]
  by_cases h1 : a = i <;> by_cases h2 : b = i <;> by_cases h3 : a = j <;> by_cases h4 : b = j <;> by_cases h5 : i = j <;> first | omega | (have h6 : ¬ j = i := fun e => h5 e.symm; simp [h1, h2, h3, h4, h5, h6]) | simp [h1, h2, h3, h4, h5]

set_option maxRecDepth 100000 in
set_option maxHeartbeats 2000000 in
theorem r33_2 {n i j base : Nat} {ws : List Wr} {v t11 : Value} {l : List Int} {w : World} {k3 : Value → World → Prop} (hi : i < n) (hj : j < n) (hn : n ≤ 8) (hr : Rd 2 wN w v ws) (hwf : Wf n ws) (hws : ws.length ≤ 16)
    (hI : IntsAt base w t11 l) (hb : base ≤ w.heap.size) (hl : l.length ≤ 8) (hk : ∀ v' w', IntsAt base w' v' (l ++ [lap ws i j]) → Chg (fun q => t11.ownBlock = some q) w w' → k3 v' w') :
    S33L2 v (.int .i64 i) t11 (.int .i64 j) k3 w := by
  obtain ⟨va, vc, ev, _⟩ := hr.len
  have lnv : ∀ K : Value → Prop, ln1 v K = K (.int .i64 ws.length) := fun K => by rw [ev]; rfl
  unfold S33L2
  refine ⟨fun t13 t14 wr => ∃ k : Nat, k ≤ ws.length ∧ t13 = .int .i64 (lap (ws.take k) i j) ∧ t14 = .int .i64 k ∧ (lap (ws.take k) i j).natAbs ≤ k ∧ SameW w wr, fun _ t14 _ => ws.length - (intOf t14).toNat, ⟨0, by omega, rfl, rfl, by simp [lap], rfl⟩, ?_⟩
  rintro _ _ _ wr ⟨k, hk1, rfl, rfl, habs, heq⟩
  obtain rfl : w = wr := heq
  rw [lnv]
  by_cases hlt : k < ws.length
  case neg =>
    have hlt' : ¬ (k : Int) < (ws.length : Int) := by omega
    simp only [r_lss, decide_eq_false hlt', r_condF]
    rw [List.take_of_length_le (by omega)]
    refine r_pushRec (x := lap ws i j) slt34 iC_len rfl (bs34 _ _ _) (by intro u hu; simp [iC] at hu; rw [hu]; rfl) (by omega) hI (by omega) hb fun v' w' o1 c1 _ => ?_
    exact hk v' w' o1 c1
  have hlt' : (k : Int) < (ws.length : Int) := by omega
  simp only [r_lss, decide_eq_true hlt', r_condT]
  obtain ⟨b, o, ia, cA, cB⟩ := wire_two hr hlt
  have hw := hwf (ws.getD k (0, 0)) (by rw [getD_lt _ _ _ hlt]; exact List.getElem_mem hlt)
  have hts : ws.take (k + 1) = ws.take k ++ [ws.getD k (0, 0)] := by rw [List.take_succ_eq_append_getElem hlt, getD_lt _ _ _ hlt]
  have hnext : lap (ws.take (k + 1)) i j = lap (ws.take k) i j + ends (ws.getD k (0, 0)) i * ends (ws.getD k (0, 0)) j := by rw [hts, lap_snoc]
  have hval := ends_val (ws.getD k (0, 0)) hw.2.2 i j
  rw [Nat.add_zero] at cA
  generalize ws.getD k (0, 0) = e at *
  obtain ⟨A, B⟩ := e
  simp only at cA cB hw hval
  have close : ∀ x : Int, x = lap (ws.take (k + 1)) i j → (∃ k' : Nat, k' ≤ ws.length ∧ Value.int .i64 x = .int .i64 (lap (ws.take k') i j) ∧ Value.int .i64 ((k : Int) + 1) = .int .i64 k' ∧ (lap (ws.take k') i j).natAbs ≤ k' ∧ SameW w w) ∧ ws.length - (intOf (.int .i64 ((k : Int) + 1))).toNat < ws.length - (intOf (.int .i64 (k : Int))).toNat := fun x hx => by
    refine ⟨⟨k + 1, by omega, by rw [hx], by go_num, ?_, rfl⟩, by simp only [intOf]; omega⟩
    rw [hnext, hval]
    split <;> split <;> omega
  by_cases hij : i = j
  · subst hij
    rw [if_pos rfl] at hval
    by_cases hA : A = i
    · have hA' : (A : Int) = (i : Int) := by omega
      rw [if_pos (.inl hA)] at hval
      simp (disch := omega) only [r_ln, r_pick, r_pickT, r_pickF, r_condT, r_condF, r_gdTT, r_gdFF, r_gdTF, r_gdFT, r_gqTT, r_gqFF, r_gqTF, r_gqFT, r_not, r_lss, r_leq, r_gtr, r_geq, r_eql, r_neq, r_add, r_sub, r_min2, r_max2, r_min3, r_max3, r_fa, r_iaS, r_iaA, r_ex2a, r_ex2b, r_ex3a, r_ex3b, r_ex3c, r_nc, r_keepE, Nat.zero_add, Nat.add_zero, Nat.mul_one, Int.toNat_natCast, toNat_sub1, toNat_add1, decide_true, decide_false, Bool.not_true, Bool.not_false, if_true, if_false, Bool.false_eq_true, reduceCtorEq, Join, r_gdU, ia, r_ld cA, decide_eq_true hA']
      exact close _ (by rw [hnext, hval] <;> try omega)
    · have hA' : ¬ (A : Int) = (i : Int) := by omega
      by_cases hB : B = i
      · have hB' : (B : Int) = (i : Int) := by omega
        rw [if_pos (.inr hB)] at hval
        simp (disch := omega) only [r_ln, r_pick, r_pickT, r_pickF, r_condT, r_condF, r_gdTT, r_gdFF, r_gdTF, r_gdFT, r_gqTT, r_gqFF, r_gqTF, r_gqFT, r_not, r_lss, r_leq, r_gtr, r_geq, r_eql, r_neq, r_add, r_sub, r_min2, r_max2, r_min3, r_max3, r_fa, r_iaS, r_iaA, r_ex2a, r_ex2b, r_ex3a, r_ex3b, r_ex3c, r_nc, r_keepE, Nat.zero_add, Nat.add_zero, Nat.mul_one, Int.toNat_natCast, toNat_sub1, toNat_add1, decide_true, decide_false, Bool.not_true, Bool.not_false, if_true, if_false, Bool.false_eq_true, reduceCtorEq, Join, r_gdU, ia, r_ld cA, r_ld cB, hA', decide_eq_true hB']
        exact close _ (by rw [hnext, hval] <;> try omega)
      · have hB' : ¬ (B : Int) = (i : Int) := by omega
        rw [if_neg (by omega)] at hval
        simp (disch := omega) only [r_ln, r_pick, r_pickT, r_pickF, r_condT, r_condF, r_gdTT, r_gdFF, r_gdTF, r_gdFT, r_gqTT, r_gqFF, r_gqTF, r_gqFT, r_not, r_lss, r_leq, r_gtr, r_geq, r_eql, r_neq, r_add, r_sub, r_min2, r_max2, r_min3, r_max3, r_fa, r_iaS, r_iaA, r_ex2a, r_ex2b, r_ex3a, r_ex3b, r_ex3c, r_nc, r_keepE, Nat.zero_add, Nat.add_zero, Nat.mul_one, Int.toNat_natCast, toNat_sub1, toNat_add1, decide_true, decide_false, Bool.not_true, Bool.not_false, if_true, if_false, Bool.false_eq_true, reduceCtorEq, Join, r_gdU, ia, r_ld cA, r_ld cB, hA', hB']
        exact close _ (by rw [hnext, hval, Int.add_zero])
  · have hij' : ¬ (i : Int) = (j : Int) := by omega
    rw [if_neg hij] at hval
    by_cases hA : A = i
    · have hA' : (A : Int) = (i : Int) := by omega
      by_cases hB : B = j
      · have hB' : (B : Int) = (j : Int) := by omega
        rw [if_pos (.inl ⟨hA, hB⟩)] at hval
        simp (disch := omega) only [r_ln, r_pick, r_pickT, r_pickF, r_condT, r_condF, r_gdTT, r_gdFF, r_gdTF, r_gdFT, r_gqTT, r_gqFF, r_gqTF, r_gqFT, r_not, r_lss, r_leq, r_gtr, r_geq, r_eql, r_neq, r_add, r_sub, r_min2, r_max2, r_min3, r_max3, r_fa, r_iaS, r_iaA, r_ex2a, r_ex2b, r_ex3a, r_ex3b, r_ex3c, r_nc, r_keepE, Nat.zero_add, Nat.add_zero, Nat.mul_one, Int.toNat_natCast, toNat_sub1, toNat_add1, decide_true, decide_false, Bool.not_true, Bool.not_false, if_true, if_false, Bool.false_eq_true, reduceCtorEq, Join, r_gdU, ia, r_ld cA, r_ld cB, hij', decide_eq_true hA', decide_eq_true hB']
        exact close _ (by rw [hnext, hval] <;> try omega)
      · have hB' : ¬ (B : Int) = (j : Int) := by omega
        have hA2 : ¬ (A : Int) = (j : Int) := by omega
        rw [if_neg (by omega)] at hval
        simp (disch := omega) only [r_ln, r_pick, r_pickT, r_pickF, r_condT, r_condF, r_gdTT, r_gdFF, r_gdTF, r_gdFT, r_gqTT, r_gqFF, r_gqTF, r_gqFT, r_not, r_lss, r_leq, r_gtr, r_geq, r_eql, r_neq, r_add, r_sub, r_min2, r_max2, r_min3, r_max3, r_fa, r_iaS, r_iaA, r_ex2a, r_ex2b, r_ex3a, r_ex3b, r_ex3c, r_nc, r_keepE, Nat.zero_add, Nat.add_zero, Nat.mul_one, Int.toNat_natCast, toNat_sub1, toNat_add1, decide_true, decide_false, Bool.not_true, Bool.not_false, if_true, if_false, Bool.false_eq_true, reduceCtorEq, Join, r_gdU, ia, r_ld cA, r_ld cB, hij', decide_eq_true hA', hB', hA2]
        exact close _ (by rw [hnext, hval, Int.add_zero])
    · have hA' : ¬ (A : Int) = (i : Int) := by omega
      by_cases hA2 : A = j
      · have hA2' : (A : Int) = (j : Int) := by omega
        by_cases hB : B = i
        · have hB' : (B : Int) = (i : Int) := by omega
          rw [if_pos (.inr ⟨hA2, hB⟩)] at hval
          simp (disch := omega) only [r_ln, r_pick, r_pickT, r_pickF, r_condT, r_condF, r_gdTT, r_gdFF, r_gdTF, r_gdFT, r_gqTT, r_gqFF, r_gqTF, r_gqFT, r_not, r_lss, r_leq, r_gtr, r_geq, r_eql, r_neq, r_add, r_sub, r_min2, r_max2, r_min3, r_max3, r_fa, r_iaS, r_iaA, r_ex2a, r_ex2b, r_ex3a, r_ex3b, r_ex3c, r_nc, r_keepE, Nat.zero_add, Nat.add_zero, Nat.mul_one, Int.toNat_natCast, toNat_sub1, toNat_add1, decide_true, decide_false, Bool.not_true, Bool.not_false, if_true, if_false, Bool.false_eq_true, reduceCtorEq, Join, r_gdU, ia, r_ld cA, r_ld cB, hij', hA', decide_eq_true hA2', decide_eq_true hB']
          exact close _ (by rw [hnext, hval] <;> try omega)
        · have hB' : ¬ (B : Int) = (i : Int) := by omega
          rw [if_neg (by omega)] at hval
          simp (disch := omega) only [r_ln, r_pick, r_pickT, r_pickF, r_condT, r_condF, r_gdTT, r_gdFF, r_gdTF, r_gdFT, r_gqTT, r_gqFF, r_gqTF, r_gqFT, r_not, r_lss, r_leq, r_gtr, r_geq, r_eql, r_neq, r_add, r_sub, r_min2, r_max2, r_min3, r_max3, r_fa, r_iaS, r_iaA, r_ex2a, r_ex2b, r_ex3a, r_ex3b, r_ex3c, r_nc, r_keepE, Nat.zero_add, Nat.add_zero, Nat.mul_one, Int.toNat_natCast, toNat_sub1, toNat_add1, decide_true, decide_false, Bool.not_true, Bool.not_false, if_true, if_false, Bool.false_eq_true, reduceCtorEq, Join, r_gdU, ia, r_ld cA, r_ld cB, hij', hA', decide_eq_true hA2', hB']
          exact close _ (by rw [hnext, hval, Int.add_zero])
      · have hA2' : ¬ (A : Int) = (j : Int) := by omega
        rw [if_neg (by omega)] at hval
        simp (disch := omega) only [r_ln, r_pick, r_pickT, r_pickF, r_condT, r_condF, r_gdTT, r_gdFF, r_gdTF, r_gdFT, r_gqTT, r_gqFF, r_gqTF, r_gqFT, r_not, r_lss, r_leq, r_gtr, r_geq, r_eql, r_neq, r_add, r_sub, r_min2, r_max2, r_min3, r_max3, r_fa, r_iaS, r_iaA, r_ex2a, r_ex2b, r_ex3a, r_ex3b, r_ex3c, r_nc, r_keepE, Nat.zero_add, Nat.add_zero, Nat.mul_one, Int.toNat_natCast, toNat_sub1, toNat_add1, decide_true, decide_false, Bool.not_true, Bool.not_false, if_true, if_false, Bool.false_eq_true, reduceCtorEq, Join, r_gdU, ia, r_ld cA, r_ld cB, hij', hA', hA2']
        exact close _ (by rw [hnext, hval, Int.add_zero])

set_option maxRecDepth 100000 in
set_option maxHeartbeats 2000000 in
theorem r33_1 {n i s t base : Nat} {ws : List Wr} {v t9 : Value} {R : List (List Int)} {w : World} {k2 : Value → World → Prop} (hi : i < n) (hn : n ≤ 8) (hr : Rd 2 wN w v ws) (hwf : Wf n ws) (hws : ws.length ≤ 16)
    (hM : IMat base w t9 R) (hb : base ≤ w.heap.size) (hR : R.length ≤ 8) (hk : ∀ v' w', IMat base w' v' (R ++ [(keepN n [(s : Int), (t : Int)]).map fun j => lap ws i j]) → Chg (fun q => base ≤ q) w w' → k2 v' w') :
    S33L1 (.int .i64 n) v (.int .i64 s) (.int .i64 t) t9 (.int .i64 i) k2 w := by
  unfold S33L1
  refine ⟨fun t11 t12 wr => ∃ j : Nat, j ≤ n ∧ t12 = .int .i64 j ∧ IntsAt w.heap.size wr t11 ((keepN j [(s : Int), (t : Int)]).map fun j => lap ws i j) ∧ Kp w wr, fun _ t12 _ => n - (intOf t12).toNat, ⟨0, by omega, rfl, RecAt.nil, Kp.refl _⟩, ?_⟩
  rintro _ t11 _ wr ⟨j, hj, rfl, hP, kr⟩
  by_cases hlt : j < n
  case neg =>
    have hlt' : ¬ (j : Int) < (n : Int) := by omega
    obtain rfl : j = n := by omega
    simp only [r_lss, hlt', decide_false, r_condF]
    obtain ⟨pa, pc, ep, _⟩ := hP.len
    rw [ep]
    rw [ep] at hP
    refine r_pushMat hM kr hP (Nat.le_refl _) (by omega) hb fun v' w' o1 c1 _ => ?_
    obtain ⟨vs, hv1, _⟩ := hM
    refine hk v' w' o1 ((Chg.of_kp kr).trans (c1.mono fun q _ hq => (hv1.lt hq).1))
  have hlt' : (j : Int) < (n : Int) := by omega
  simp only [r_lss, decide_eq_true hlt', r_condT]
  have hks := keepN_succ j [(s : Int), (t : Int)]
  have hkl := keepN_le j [(s : Int), (t : Int)]
  have hsz := kr.size
  refine r_join1 (fun v w3 => IntsAt w.heap.size w3 v ((keepN (j + 1) [(s : Int), (t : Int)]).map fun j => lap ws i j) ∧ Kp w w3) ?_ fun kk hkk => ?_
  · rintro v w3 ⟨g1, g2⟩
    rw [r_add _ _ (by omega) (by omega)]
    exact ⟨⟨j + 1, by omega, by go_num, g1, g2⟩, by simp only [intOf]; omega⟩
  by_cases hs : (j : Int) = (s : Int)
  · rw [if_pos (by simp [hs]), List.append_nil] at hks
    rw [hks] at hkk
    simp (disch := omega) only [r_ln, r_pick, r_pickT, r_pickF, r_condT, r_condF, r_gdTT, r_gdFF, r_gdTF, r_gdFT, r_gqTT, r_gqFF, r_gqTF, r_gqFT, r_not, r_lss, r_leq, r_gtr, r_geq, r_eql, r_neq, r_add, r_sub, r_min2, r_max2, r_min3, r_max3, r_fa, r_iaS, r_iaA, r_ex2a, r_ex2b, r_ex3a, r_ex3b, r_ex3c, r_nc, r_keepE, Nat.zero_add, Nat.add_zero, Nat.mul_one, Int.toNat_natCast, toNat_sub1, toNat_add1, decide_true, decide_false, Bool.not_true, Bool.not_false, if_true, if_false, Bool.false_eq_true, reduceCtorEq, r_gdU, decide_eq_true hs]
    exact hkk _ _ ⟨hP, kr⟩
  by_cases ht : (j : Int) = (t : Int)
  · rw [if_pos (by simp [ht]), List.append_nil] at hks
    rw [hks] at hkk
    simp (disch := omega) only [r_ln, r_pick, r_pickT, r_pickF, r_condT, r_condF, r_gdTT, r_gdFF, r_gdTF, r_gdFT, r_gqTT, r_gqFF, r_gqTF, r_gqFT, r_not, r_lss, r_leq, r_gtr, r_geq, r_eql, r_neq, r_add, r_sub, r_min2, r_max2, r_min3, r_max3, r_fa, r_iaS, r_iaA, r_ex2a, r_ex2b, r_ex3a, r_ex3b, r_ex3c, r_nc, r_keepE, Nat.zero_add, Nat.add_zero, Nat.mul_one, Int.toNat_natCast, toNat_sub1, toNat_add1, decide_true, decide_false, Bool.not_true, Bool.not_false, if_true, if_false, Bool.false_eq_true, reduceCtorEq, r_gdU, hs, decide_eq_true ht]
    exact hkk _ _ ⟨hP, kr⟩
  · rw [if_neg (by simp only [List.mem_cons, List.not_mem_nil, or_false]; omega)] at hks
    simp (disch := omega) only [r_ln, r_pick, r_pickT, r_pickF, r_condT, r_condF, r_gdTT, r_gdFF, r_gdTF, r_gdFT, r_gqTT, r_gqFF, r_gqTF, r_gqFT, r_not, r_lss, r_leq, r_gtr, r_geq, r_eql, r_neq, r_add, r_sub, r_min2, r_max2, r_min3, r_max3, r_fa, r_iaS, r_iaA, r_ex2a, r_ex2b, r_ex3a, r_ex3b, r_ex3c, r_nc, r_keepE, Nat.zero_add, Nat.add_zero, Nat.mul_one, Int.toNat_natCast, toNat_sub1, toNat_add1, decide_true, decide_false, Bool.not_true, Bool.not_false, if_true, if_false, Bool.false_eq_true, reduceCtorEq, r_gdU, hs, ht]
    refine r33_2 hi hlt hn (hr.kp kr) hwf hws hP hsz (by rw [List.length_map]; omega) fun v' w' o1 c1 => ?_
    exact hkk _ _ ⟨by rw [hks, List.map_append]; exact o1, Kp.of_chg kr c1 fun q hq => (hP.lt hq).1⟩

set_option maxRecDepth 100000 in
set_option maxHeartbeats 2000000 in
theorem laplacian_calls {n s t : Nat} {ws : List Wr} {v : Value} (w : World) (hN : NetOk n ws) (hr : Rd 2 wN w v ws) :
    Calls Tryd.prog 33 #[.int .i64 n, v, .int .i64 s, .int .i64 t] w fun e w' => Kp w w' ∧ ∃ v', e = .returned v' ∧ IMat w.heap.size w' v' (redM n [(s : Int), (t : Int)] (lap ws)) := by
  have h8 := hN.most
  refine lift33 ?_
  unfold S33 S33L0
  refine ⟨fun t9 t10 wr => ∃ i : Nat, i ≤ n ∧ t10 = .int .i64 i ∧ IMat w.heap.size wr t9 ((keepN i [(s : Int), (t : Int)]).map fun i => (keepN n [(s : Int), (t : Int)]).map fun j => lap ws i j) ∧ Kp w wr, fun _ t10 _ => n - (intOf t10).toNat, ⟨0, by omega, rfl, IMat.nil, Kp.refl _⟩, ?_⟩
  rintro _ t9 _ wr ⟨i, hi, rfl, hP, kr⟩
  by_cases hlt : i < n
  case neg =>
    have hlt' : ¬ (i : Int) < (n : Int) := by omega
    obtain rfl : i = n := by omega
    simp only [r_lss, hlt', decide_false, r_condF]
    exact ⟨kr, _, rfl, hP⟩
  have hlt' : (i : Int) < (n : Int) := by omega
  simp only [r_lss, decide_eq_true hlt', r_condT]
  have hks := keepN_succ i [(s : Int), (t : Int)]
  have hkl := keepN_le i [(s : Int), (t : Int)]
  have hsz := kr.size
  refine r_join1 (fun v w3 => IMat w.heap.size w3 v ((keepN (i + 1) [(s : Int), (t : Int)]).map fun i => (keepN n [(s : Int), (t : Int)]).map fun j => lap ws i j) ∧ Kp w w3) ?_ fun kk hkk => ?_
  · rintro v w3 ⟨g1, g2⟩
    rw [r_add _ _ (by omega) (by omega)]
    exact ⟨⟨i + 1, by omega, by go_num, g1, g2⟩, by simp only [intOf]; omega⟩
  by_cases hs : (i : Int) = (s : Int)
  · rw [if_pos (by simp [hs]), List.append_nil] at hks
    rw [hks] at hkk
    simp (disch := omega) only [r_ln, r_pick, r_pickT, r_pickF, r_condT, r_condF, r_gdTT, r_gdFF, r_gdTF, r_gdFT, r_gqTT, r_gqFF, r_gqTF, r_gqFT, r_not, r_lss, r_leq, r_gtr, r_geq, r_eql, r_neq, r_add, r_sub, r_min2, r_max2, r_min3, r_max3, r_fa, r_iaS, r_iaA, r_ex2a, r_ex2b, r_ex3a, r_ex3b, r_ex3c, r_nc, r_keepE, Nat.zero_add, Nat.add_zero, Nat.mul_one, Int.toNat_natCast, toNat_sub1, toNat_add1, decide_true, decide_false, Bool.not_true, Bool.not_false, if_true, if_false, Bool.false_eq_true, reduceCtorEq, r_gdU, decide_eq_true hs]
    exact hkk _ _ ⟨hP, kr⟩
  by_cases ht : (i : Int) = (t : Int)
  · rw [if_pos (by simp [ht]), List.append_nil] at hks
    rw [hks] at hkk
    simp (disch := omega) only [r_ln, r_pick, r_pickT, r_pickF, r_condT, r_condF, r_gdTT, r_gdFF, r_gdTF, r_gdFT, r_gqTT, r_gqFF, r_gqTF, r_gqFT, r_not, r_lss, r_leq, r_gtr, r_geq, r_eql, r_neq, r_add, r_sub, r_min2, r_max2, r_min3, r_max3, r_fa, r_iaS, r_iaA, r_ex2a, r_ex2b, r_ex3a, r_ex3b, r_ex3c, r_nc, r_keepE, Nat.zero_add, Nat.add_zero, Nat.mul_one, Int.toNat_natCast, toNat_sub1, toNat_add1, decide_true, decide_false, Bool.not_true, Bool.not_false, if_true, if_false, Bool.false_eq_true, reduceCtorEq, r_gdU, hs, decide_eq_true ht]
    exact hkk _ _ ⟨hP, kr⟩
  · rw [if_neg (by simp only [List.mem_cons, List.not_mem_nil, or_false]; omega)] at hks
    simp (disch := omega) only [r_ln, r_pick, r_pickT, r_pickF, r_condT, r_condF, r_gdTT, r_gdFF, r_gdTF, r_gdFT, r_gqTT, r_gqFF, r_gqTF, r_gqFT, r_not, r_lss, r_leq, r_gtr, r_geq, r_eql, r_neq, r_add, r_sub, r_min2, r_max2, r_min3, r_max3, r_fa, r_iaS, r_iaA, r_ex2a, r_ex2b, r_ex3a, r_ex3b, r_ex3c, r_nc, r_keepE, Nat.zero_add, Nat.add_zero, Nat.mul_one, Int.toNat_natCast, toNat_sub1, toNat_add1, decide_true, decide_false, Bool.not_true, Bool.not_false, if_true, if_false, Bool.false_eq_true, reduceCtorEq, r_gdU, hs, ht]
    refine r33_1 hlt h8 (hr.kp kr) hN.wf hN.few hP hsz (by rw [List.length_map]; omega) fun v' w' o1 c1 => ?_
    exact hkk _ _ ⟨by rw [hks, List.map_append]; exact o1, Kp.of_chg kr c1 fun q hq => hq⟩

end Go.Proofs.YtkdcldbedbagjaaDoor

/- Contract: level of SquarePower. -/
namespace Go.Proofs.YtkdcldbedbagjaaDoor
open Go.Lf Go.RowKit Go.Dt

theorem st4 {w : World} {a : Addr} {x : Bool} {v : Value} {K : World → Prop} (hc : w.cell? a = some v) (hf : w.frozen? a = false) : stW Tryd.prog 4 (.pointer (some a)) (.bool x) w K = K (w.setCell a (.bool x)) := by
  have e : stW Tryd.prog 4 (.pointer (some a)) (.bool x) w K = ((w.cell? (a.add 0)).isSome = true ∧ w.frozen? (a.add 0) = false ∧ true = true ∧ K (w.setCell (a.add 0) (.bool x))) := by kernel_rfl
  rw [e]
  have : a.add 0 = a := by cases a; simp [Addr.add]
  rw [this, hc, hf]
  simp

theorem IntsAt.ar {base : Nat} {w : World} {v : Value} {l : List Int} (h : IntsAt base w v l) (h0 : 0 < l.length) : ∃ g, v.ownBlock = some g ∧ ∀ q, q < l.length → (∀ K : Value → Prop, iaS 1 v (.int .i64 q) K = K (.pointer (some ⟨g, q, none⟩))) ∧
    w.cell? ⟨g, q, none⟩ = some (.int .i64 (l.getD q 0)) ∧ w.frozen? ⟨g, q, none⟩ = false ∧ ∀ x, IntsAt base (w.setCell ⟨g, q, none⟩ (.int .i64 x)) v (l.set q x) := by
  obtain ⟨g, cap, e, _⟩ := h.put h0 0
  refine ⟨g, by rw [e]; rfl, fun q hq => ?_⟩
  obtain ⟨g', cap', e', _, hc, hf, _⟩ := h.put hq 0
  have : g' = g := by rw [e] at e'; injection e' with e1; injection e1 with e1; injection e1 with e1; exact e1.symm
  subst this
  have hqq : (q : Int).toNat = q := by omega
  refine ⟨fun K => by rw [e', r_iaS _ _ _ _ _ _ _ (by omega) (by omega), hqq, Nat.mul_one, Nat.zero_add], hc, hf, fun x => ?_⟩
  obtain ⟨g2, _, e2, _, _, _, hs⟩ := h.put hq x
  have : g2 = g' := by rw [e] at e2; injection e2 with e1; injection e1 with e1; injection e1 with e1; exact e1.symm
  subst this
  exact hs
theorem BoolsAt.ar {base : Nat} {w : World} {v : Value} {l : List Bool} (h : BoolsAt base w v l) (h0 : 0 < l.length) : ∃ g, v.ownBlock = some g ∧ ∀ q, q < l.length → (∀ K : Value → Prop, iaS 1 v (.int .i64 q) K = K (.pointer (some ⟨g, q, none⟩))) ∧
    w.cell? ⟨g, q, none⟩ = some (.bool (l.getD q false)) ∧ w.frozen? ⟨g, q, none⟩ = false ∧ ∀ x, BoolsAt base (w.setCell ⟨g, q, none⟩ (.bool x)) v (l.set q x) := by
  obtain ⟨g, cap, e, _⟩ := h.put h0 false
  refine ⟨g, by rw [e]; rfl, fun q hq => ?_⟩
  obtain ⟨g', cap', e', _, hc, hf, _⟩ := h.put hq false
  have : g' = g := by rw [e] at e'; injection e' with e1; injection e1 with e1; injection e1 with e1; exact e1.symm
  subst this
  have hqq : (q : Int).toNat = q := by omega
  refine ⟨fun K => by rw [e', r_iaS _ _ _ _ _ _ _ (by omega) (by omega), hqq, Nat.mul_one, Nat.zero_add], hc, hf, fun x => ?_⟩
  obtain ⟨g2, _, e2, _, _, _, hs⟩ := h.put hq x
  have : g2 = g' := by rw [e] at e2; injection e2 with e1; injection e1 with e1; injection e1 with e1; exact e1.symm
  subst this
  exact hs

/-- The state of level's arrays. -/
structure LvSt (n : Nat) (p : Nat → Int) (w : World) (b7 : Nat) (cv : Value) (T V : Int) (t11 t12 : Value) (wr : World) (vals : List Int) (kn : List Bool) : Prop where
  kp : Kp w wr
  ints : IntsAt w.heap.size wr t11 vals
  bools : BoolsAt w.heap.size wr t12 kn
  l1 : vals.length = n
  l2 : kn.length = n
  box : wr.heap[b7]? = some (.cells #[cv, .int .i64 T, .int .i64 V] 36 (0, 0))
  ok : ∀ x, kn.getD x false = true → vals.getD x 0 = p x

section
variable {n : Nat} {p : Nat → Int} {w wr : World} {b7 : Nat} {cv : Value} {T V : Int} {t11 t12 : Value} {vals : List Int} {kn : List Bool}
theorem LvSt.later (h : LvSt n p w b7 cv T V t11 t12 wr vals kn) {w' : World} (k : Kp wr w') : LvSt n p w b7 cv T V t11 t12 w' vals kn :=
  ⟨Kp.trans h.kp k, h.ints.kp k, h.bools.kp k, h.l1, h.l2, block_below h.box k, h.ok⟩

/-- A vertex is set. -/
theorem LvSt.set (h : LvSt n p w b7 cv T V t11 t12 wr vals kn) {q g1 g2 : Nat} (hq : q < n) (e1 : t11.ownBlock = some g1) (e2 : t12.ownBlock = some g2) (hg1 : w.heap.size ≤ g1) (hg2 : w.heap.size ≤ g2) {x : Int} (hx : x = p q)
    (hI : IntsAt w.heap.size (wr.setCell ⟨g1, q, none⟩ (.int .i64 x)) t11 (vals.set q x)) (hB : BoolsAt w.heap.size ((wr.setCell ⟨g1, q, none⟩ (.int .i64 x)).setCell ⟨g2, q, none⟩ (.bool true)) t12 (kn.set q true)) :
    LvSt n p w b7 cv T V t11 t12 ((wr.setCell ⟨g1, q, none⟩ (.int .i64 x)).setCell ⟨g2, q, none⟩ (.bool true)) (vals.set q x) (kn.set q true) := by
  have c1 : Chg (fun k => k = g1) wr (wr.setCell ⟨g1, q, none⟩ (.int .i64 x)) := Chg.setCell _ _ rfl
  have c2 : Chg (fun k => k = g2) (wr.setCell ⟨g1, q, none⟩ (.int .i64 x)) ((wr.setCell ⟨g1, q, none⟩ (.int .i64 x)).setCell ⟨g2, q, none⟩ (.bool true)) := Chg.setCell _ _ rfl
  obtain ⟨cu1, hc1⟩ := h.ints.row e1
  obtain ⟨cu2, hc2⟩ := h.bools.row e2
  have n12 : g1 ≠ g2 := type_ne hc1 hc2 (by decide)
  have n7 : b7 ≠ g1 := type_ne h.box hc1 (by decide)
  have n7' : b7 ≠ g2 := type_ne h.box hc2 (by decide)
  refine ⟨Kp.of_chg (Kp.of_chg h.kp c1 fun k e => by omega) c2 fun k e => by omega, hI.chg c2 fun k hk e => ?_, hB, by rw [List.length_set]; exact h.l1, by rw [List.length_set]; exact h.l2, c2.at (c1.at h.box n7) n7', fun y hy => ?_⟩
  · rw [e1] at hk; cases hk; exact n12 e
  · by_cases e : y = q
    · subst e
      rw [List.getD_eq_getElem?_getD, List.getElem?_set_self (by rw [h.l1]; exact hq)]
      exact hx
    · rw [List.getD_eq_getElem?_getD, List.getElem?_set_ne (Ne.symm e), ← List.getD_eq_getElem?_getD] at hy ⊢
      exact h.ok y hy
end

theorem kn_set {kn : List Bool} {q x : Nat} (h : kn.getD x false = true) : (kn.set q true).getD x false = true := by
  by_cases e : q = x
  · subst e
    have hlt : q < kn.length := by
      refine Classical.byContradiction fun hn => ?_
      rw [List.getD_eq_getElem?_getD, List.getElem?_eq_none (by omega)] at h
      cases h
    rw [List.getD_eq_getElem?_getD, List.getElem?_set_self hlt]; rfl
  · rw [List.getD_eq_getElem?_getD, List.getElem?_set_ne e, ← List.getD_eq_getElem?_getD]; exact h
theorem kn_set_self {kn : List Bool} {q : Nat} (h : q < kn.length) : (kn.set q true).getD q false = true := by
  rw [List.getD_eq_getElem?_getD, List.getElem?_set_self h]; rfl

/-- The halves of level's step. -/
def H1 (t7 t11 t12 t14 t40 t45 : Value) (w : World) (KK : World → Prop) : Prop :=
  iaS 1 t12 t40 fun t48 =>
  ld1 w t48 fun t49 =>
  gd t49 true (fun k => k t12 w) w fun t51 w =>
  gd t49 true (fun k => k t45 w) w fun t52 w =>
  gd t49 true (fun k => iaS 1 t51 t52 fun v => k v w) w fun t53 w =>
  gd t49 true (fun k => ld1 w t53 fun v => k v w) w fun t54 w =>
  gd t49 true (fun k => unQ .not t54 fun v => k v w) w fun t55 w =>
  pickQ t49 t55 (.bool false) fun t56 =>
  Join (fun (k_4 : World → Prop) =>
    condW t56 (
      Drew w fun w =>
      iaS 1 t11 t40 fun t61 =>
      ld1 w t61 fun t62 =>
      fa1 t7 0 fun t63 =>
      ld1 w t63 fun t64 =>
      iaS 1 t64 t14 fun t66 =>
      ld1 w t66 fun t67 =>
      binQ Tryd.prog w .sub 3 false t62 t67 fun t68 =>
      iaS 1 t11 t45 fun t69 =>
      stW Tryd.prog 3 t69 t68 w fun w =>
      iaS 1 t12 t45 fun t72 =>
      stW Tryd.prog 4 t72 (.bool true) w fun w =>
      k_4 w
    ) (
      k_4 w
    )
  ) KK

def H2 (t7 t11 t12 t14 t40 t45 : Value) (w : World) (KK : World → Prop) : Prop :=
  iaS 1 t12 t45 fun t75_2 =>
  ld1 w t75_2 fun t76_2 =>
  gd t76_2 true (fun k => k t12 w) w fun t78_2 w =>
  gd t76_2 true (fun k => k t40 w) w fun t79_2 w =>
  gd t76_2 true (fun k => iaS 1 t78_2 t79_2 fun v => k v w) w fun t80_2 w =>
  gd t76_2 true (fun k => ld1 w t80_2 fun v => k v w) w fun t81_2 w =>
  gd t76_2 true (fun k => unQ .not t81_2 fun v => k v w) w fun t82_2 w =>
  pickQ t76_2 t82_2 (.bool false) fun t83_2 =>
  Join (fun (k_5 : World → Prop) =>
    condW t83_2 (
      Drew w fun w =>
      iaS 1 t11 t45 fun t88_2 =>
      ld1 w t88_2 fun t89_2 =>
      fa1 t7 0 fun t90_2 =>
      ld1 w t90_2 fun t91_2 =>
      iaS 1 t91_2 t14 fun t93_2 =>
      ld1 w t93_2 fun t94_2 =>
      binQ Tryd.prog w .add 3 false t89_2 t94_2 fun t95_2 =>
      iaS 1 t11 t40 fun t96_2 =>
      stW Tryd.prog 3 t96_2 t95_2 w fun w =>
      iaS 1 t12 t40 fun t99_2 =>
      stW Tryd.prog 4 t99_2 (.bool true) w fun w =>
      k_5 w
    ) (
      k_5 w
    )
  ) KK

section
variable {n : Nat} {p : Nat → Int} {cl : List Int} {cv t11 t12 : Value} {T V : Int} {b7 k A B : Nat} {w wr : World} {vals : List Int} {kn : List Bool} {KK : World → Prop}

set_option maxRecDepth 100000 in
set_option maxHeartbeats 1000000 in
theorem half1 (hA : A < n) (hB : B < n) (hp : ∀ x, 0 ≤ p x ∧ p x ≤ 65536) (hcv : RdInts w cv cl) (hkl : k < cl.length) (hck : cl.getD k 0 = p A - p B) (h : LvSt n p w b7 cv T V t11 t12 wr vals kn)
    (hk : ∀ w' vals' kn', LvSt n p w b7 cv T V t11 t12 w' vals' kn' → (∀ x, kn.getD x false = true → kn'.getD x false = true) → (kn.getD A false = true → kn'.getD B false = true) → KK w') :
    H1 (ptrV b7) t11 t12 (.int .i64 k) (.int .i64 A) (.int .i64 B) wr KK := by
  obtain ⟨g1, e1, ar1⟩ := h.ints.ar (by rw [h.l1]; omega)
  obtain ⟨g2, e2, ar2⟩ := h.bools.ar (by rw [h.l2]; omega)
  have lg1 := (h.ints.lt e1).1
  have lg2 := (h.bools.lt e2).1
  obtain ⟨i1A, c1A, _, _⟩ := ar1 A (by rw [h.l1]; exact hA)
  obtain ⟨i1B, c1B, f1B, s1B⟩ := ar1 B (by rw [h.l1]; exact hB)
  obtain ⟨i2A, c2A, _, _⟩ := ar2 A (by rw [h.l2]; exact hA)
  obtain ⟨i2B, c2B, f2B, _⟩ := ar2 B (by rw [h.l2]; exact hB)
  obtain ⟨cu1, hc1⟩ := h.ints.row e1
  obtain ⟨cu2, hc2⟩ := h.bools.row e2
  have n12 : g1 ≠ g2 := type_ne hc1 hc2 (by decide)
  have pA := hp A
  have pB := hp B
  unfold H1
  cases hkA : kn.getD A false with
  | false =>
    rw [hkA] at c2A
    simp only [r_ln, r_pick, r_pickT, r_pickF, r_condT, r_condF, r_gdTT, r_gdFF, r_gdTF, r_gdFT, r_gqTT, r_gqFF, r_gqTF, r_gqFT, r_not, r_lss, r_leq, r_gtr, r_geq, r_eql, r_neq, r_add, r_sub, r_min2, r_max2, r_min3, r_max3, r_fa, r_iaS, r_iaA, r_ex2a, r_ex2b, r_ex3a, r_ex3b, r_ex3c, r_nc, r_keepE, Nat.zero_add, Nat.add_zero, Nat.mul_one, Int.toNat_natCast, toNat_sub1, toNat_add1, decide_true, decide_false, Bool.not_true, Bool.not_false, if_true, if_false, Bool.false_eq_true, reduceCtorEq, r_gdU, i2A, r_ld c2A, Join]
    exact hk wr vals kn h (fun _ h => h) fun h => by rw [hkA] at h; cases h
  | true =>
    rw [hkA] at c2A
    cases hkB : kn.getD B false with
    | true =>
      rw [hkB] at c2B
      simp only [r_ln, r_pick, r_pickT, r_pickF, r_condT, r_condF, r_gdTT, r_gdFF, r_gdTF, r_gdFT, r_gqTT, r_gqFF, r_gqTF, r_gqFT, r_not, r_lss, r_leq, r_gtr, r_geq, r_eql, r_neq, r_add, r_sub, r_min2, r_max2, r_min3, r_max3, r_fa, r_iaS, r_iaA, r_ex2a, r_ex2b, r_ex3a, r_ex3b, r_ex3c, r_nc, r_keepE, Nat.zero_add, Nat.add_zero, Nat.mul_one, Int.toNat_natCast, toNat_sub1, toNat_add1, decide_true, decide_false, Bool.not_true, Bool.not_false, if_true, if_false, Bool.false_eq_true, reduceCtorEq, r_gdU, i2A, i2B, r_ld c2A, r_ld c2B, Join, Bool.not_true]
      exact hk wr vals kn h (fun _ h => h) fun _ => hkB
    | false =>
      rw [hkB] at c2B
      simp only [r_ln, r_pick, r_pickT, r_pickF, r_condT, r_condF, r_gdTT, r_gdFF, r_gdTF, r_gdFT, r_gqTT, r_gqFF, r_gqTF, r_gqFT, r_not, r_lss, r_leq, r_gtr, r_geq, r_eql, r_neq, r_add, r_sub, r_min2, r_max2, r_min3, r_max3, r_fa, r_iaS, r_iaA, r_ex2a, r_ex2b, r_ex3a, r_ex3b, r_ex3c, r_nc, r_keepE, Nat.zero_add, Nat.add_zero, Nat.mul_one, Int.toNat_natCast, toNat_sub1, toNat_add1, decide_true, decide_false, Bool.not_true, Bool.not_false, if_true, if_false, Bool.false_eq_true, reduceCtorEq, r_gdU, i2A, i2B, r_ld c2A, r_ld c2B, Join, Bool.not_false]
      refine r_drew fun w3 k3 hh => ?_
      have h3 := h.later k3
      obtain ⟨g1', e1', ar1'⟩ := h3.ints.ar (by rw [h.l1]; omega)
      obtain ⟨g2', e2', ar2'⟩ := h3.bools.ar (by rw [h.l2]; omega)
      rw [e1] at e1'
      rw [e2] at e2'
      cases e1'
      cases e2'
      obtain ⟨_, d1A, _, _⟩ := ar1' A (by rw [h.l1]; exact hA)
      obtain ⟨_, d1B, f1B, s1B⟩ := ar1' B (by rw [h.l1]; exact hB)
      have bx : w3.cell? ⟨b7, 0, none⟩ = some cv := by rw [cell_row h3.box]; rfl
      have cur : ∀ K : Value → Prop, (iaS 1 cv (.int .i64 k) fun q => ld1 w3 q K) = K (.int .i64 (p A - p B)) := fun K => by
        rw [ints_ldK (hcv.below h3.kp) hkl, hck]
      rw [i1A, r_ld d1A, r_ld bx, cur, h.ok A hkA, r_sub _ _ (by omega) (by omega), i1B, st3 d1B f1B]
      have hI := s1B (p A - (p A - p B))
      have c1 : Chg (fun k => k = g1) w3 (w3.setCell ⟨g1, B, none⟩ (.int .i64 (p A - (p A - p B)))) := Chg.setCell _ _ rfl
      have hB1 := h3.bools.chg c1 fun q hq e => by rw [e2] at hq; cases hq; exact n12 e.symm
      obtain ⟨g2'', e2'', ar2''⟩ := BoolsAt.ar hB1 (by rw [h.l2]; omega)
      rw [e2] at e2''
      cases e2''
      obtain ⟨_, d2B, f2B, s2B⟩ := ar2'' B (by rw [h.l2]; exact hB)
      rw [st4 d2B f2B]
      exact hk _ _ _ (h3.set hB e1 e2 lg1 lg2 (by omega) hI (s2B true)) (fun x => kn_set) fun _ => kn_set_self (by rw [h.l2]; exact hB)

set_option maxRecDepth 100000 in
set_option maxHeartbeats 1000000 in
theorem half2 (hA : A < n) (hB : B < n) (hp : ∀ x, 0 ≤ p x ∧ p x ≤ 65536) (hcv : RdInts w cv cl) (hkl : k < cl.length) (hck : cl.getD k 0 = p A - p B) (h : LvSt n p w b7 cv T V t11 t12 wr vals kn)
    (hk : ∀ w' vals' kn', LvSt n p w b7 cv T V t11 t12 w' vals' kn' → (∀ x, kn.getD x false = true → kn'.getD x false = true) → (kn.getD B false = true → kn'.getD A false = true) → KK w') :
    H2 (ptrV b7) t11 t12 (.int .i64 k) (.int .i64 A) (.int .i64 B) wr KK := by
  obtain ⟨g1, e1, ar1⟩ := h.ints.ar (by rw [h.l1]; omega)
  obtain ⟨g2, e2, ar2⟩ := h.bools.ar (by rw [h.l2]; omega)
  have lg1 := (h.ints.lt e1).1
  have lg2 := (h.bools.lt e2).1
  obtain ⟨i1A, c1A, _, _⟩ := ar1 A (by rw [h.l1]; exact hA)
  obtain ⟨i1B, c1B, f1B, s1B⟩ := ar1 B (by rw [h.l1]; exact hB)
  obtain ⟨i2A, c2A, _, _⟩ := ar2 A (by rw [h.l2]; exact hA)
  obtain ⟨i2B, c2B, f2B, _⟩ := ar2 B (by rw [h.l2]; exact hB)
  obtain ⟨cu1, hc1⟩ := h.ints.row e1
  obtain ⟨cu2, hc2⟩ := h.bools.row e2
  have n12 : g1 ≠ g2 := type_ne hc1 hc2 (by decide)
  have pA := hp A
  have pB := hp B
  unfold H2
  cases hkB : kn.getD B false with
  | false =>
    rw [hkB] at c2B
    simp only [r_ln, r_pick, r_pickT, r_pickF, r_condT, r_condF, r_gdTT, r_gdFF, r_gdTF, r_gdFT, r_gqTT, r_gqFF, r_gqTF, r_gqFT, r_not, r_lss, r_leq, r_gtr, r_geq, r_eql, r_neq, r_add, r_sub, r_min2, r_max2, r_min3, r_max3, r_fa, r_iaS, r_iaA, r_ex2a, r_ex2b, r_ex3a, r_ex3b, r_ex3c, r_nc, r_keepE, Nat.zero_add, Nat.add_zero, Nat.mul_one, Int.toNat_natCast, toNat_sub1, toNat_add1, decide_true, decide_false, Bool.not_true, Bool.not_false, if_true, if_false, Bool.false_eq_true, reduceCtorEq, r_gdU, i2B, r_ld c2B, Join]
    exact hk wr vals kn h (fun _ h => h) fun h => by rw [hkB] at h; cases h
  | true =>
    rw [hkB] at c2B
    cases hkA : kn.getD A false with
    | true =>
      rw [hkA] at c2A
      simp only [r_ln, r_pick, r_pickT, r_pickF, r_condT, r_condF, r_gdTT, r_gdFF, r_gdTF, r_gdFT, r_gqTT, r_gqFF, r_gqTF, r_gqFT, r_not, r_lss, r_leq, r_gtr, r_geq, r_eql, r_neq, r_add, r_sub, r_min2, r_max2, r_min3, r_max3, r_fa, r_iaS, r_iaA, r_ex2a, r_ex2b, r_ex3a, r_ex3b, r_ex3c, r_nc, r_keepE, Nat.zero_add, Nat.add_zero, Nat.mul_one, Int.toNat_natCast, toNat_sub1, toNat_add1, decide_true, decide_false, Bool.not_true, Bool.not_false, if_true, if_false, Bool.false_eq_true, reduceCtorEq, r_gdU, i2A, i2B, r_ld c2A, r_ld c2B, Join, Bool.not_true]
      exact hk wr vals kn h (fun _ h => h) fun _ => hkA
    | false =>
      rw [hkA] at c2A
      simp only [r_ln, r_pick, r_pickT, r_pickF, r_condT, r_condF, r_gdTT, r_gdFF, r_gdTF, r_gdFT, r_gqTT, r_gqFF, r_gqTF, r_gqFT, r_not, r_lss, r_leq, r_gtr, r_geq, r_eql, r_neq, r_add, r_sub, r_min2, r_max2, r_min3, r_max3, r_fa, r_iaS, r_iaA, r_ex2a, r_ex2b, r_ex3a, r_ex3b, r_ex3c, r_nc, r_keepE, Nat.zero_add, Nat.add_zero, Nat.mul_one, Int.toNat_natCast, toNat_sub1, toNat_add1, decide_true, decide_false, Bool.not_true, Bool.not_false, if_true, if_false, Bool.false_eq_true, reduceCtorEq, r_gdU, i2A, i2B, r_ld c2A, r_ld c2B, Join, Bool.not_false]
      refine r_drew fun w3 k3 hh => ?_
      have h3 := h.later k3
      obtain ⟨g1', e1', ar1'⟩ := h3.ints.ar (by rw [h.l1]; omega)
      obtain ⟨g2', e2', ar2'⟩ := h3.bools.ar (by rw [h.l2]; omega)
      rw [e1] at e1'
      rw [e2] at e2'
      cases e1'
      cases e2'
      obtain ⟨_, d1A, f1A, s1A⟩ := ar1' A (by rw [h.l1]; exact hA)
      obtain ⟨_, d1B, _, _⟩ := ar1' B (by rw [h.l1]; exact hB)
      have bx : w3.cell? ⟨b7, 0, none⟩ = some cv := by rw [cell_row h3.box]; rfl
      have cur : ∀ K : Value → Prop, (iaS 1 cv (.int .i64 k) fun q => ld1 w3 q K) = K (.int .i64 (p A - p B)) := fun K => by
        rw [ints_ldK (hcv.below h3.kp) hkl, hck]
      rw [i1B, r_ld d1B, r_ld bx, cur, h.ok B hkB, r_add _ _ (by omega) (by omega), i1A, st3 d1A f1A]
      have hI := s1A (p B + (p A - p B))
      have c1 : Chg (fun k => k = g1) w3 (w3.setCell ⟨g1, A, none⟩ (.int .i64 (p B + (p A - p B)))) := Chg.setCell _ _ rfl
      have hB1 := h3.bools.chg c1 fun q hq e => by rw [e2] at hq; cases hq; exact n12 e.symm
      obtain ⟨g2'', e2'', ar2''⟩ := BoolsAt.ar hB1 (by rw [h.l2]; omega)
      rw [e2] at e2''
      cases e2''
      obtain ⟨_, d2A, f2A, s2A⟩ := ar2'' A (by rw [h.l2]; exact hA)
      rw [st4 d2A f2A]
      exact hk _ _ _ (h3.set hA e1 e2 lg1 lg2 (by omega) hI (s2A true)) (fun x => kn_set) fun _ => kn_set_self (by rw [h.l2]; exact hA)
end

set_option maxRecDepth 100000 in
set_option maxHeartbeats 2000000 in
theorem r23_1 {n : Nat} {p : Nat → Int} {ws : List Wr} {cl : List Int} {v cv t11 t12 : Value} {T V : Int} {b7 turn : Nat} {w wr : World} {vals : List Int} {kn : List Bool} {next : Value → World → Prop}
    (hwf : Wf n ws) (hws : ws.length ≤ 16) (ht : turn ≤ 100) (hcl : cl.length = ws.length) (hc : ∀ k, k < ws.length → cl.getD k 0 = p (ws.getD k (0, 0)).1 - p (ws.getD k (0, 0)).2) (hp : ∀ x, 0 ≤ p x ∧ p x ≤ 65536)
    (hr : Rd 2 wN w v ws) (hcv : RdInts w cv cl) (h : LvSt n p w b7 cv T V t11 t12 wr vals kn)
    (hk : ∀ w' vals' kn', LvSt n p w b7 cv T V t11 t12 w' vals' kn' → (∀ x, kn.getD x false = true → kn'.getD x false = true) → (∀ e ∈ ws, (kn.getD e.1 false = true → kn'.getD e.2 false = true) ∧ (kn.getD e.2 false = true → kn'.getD e.1 false = true)) → next (.int .i64 (turn + 1 : Nat)) w') :
    S23L1 v (ptrV b7) t11 t12 (.int .i64 turn) next wr := by
  obtain ⟨va, vc, ev, _⟩ := hr.len
  have lnv : ∀ K : Value → Prop, ln1 v K = K (.int .i64 ws.length) := fun K => by rw [ev]; rfl
  unfold S23L1
  refine ⟨fun t14 wq => ∃ (k : Nat) (vals' : List Int) (kn' : List Bool), k ≤ ws.length ∧ t14 = .int .i64 k ∧ LvSt n p w b7 cv T V t11 t12 wq vals' kn' ∧ (∀ x, kn.getD x false = true → kn'.getD x false = true) ∧
      ∀ j, j < k → (kn.getD (ws.getD j (0, 0)).1 false = true → kn'.getD (ws.getD j (0, 0)).2 false = true) ∧ (kn.getD (ws.getD j (0, 0)).2 false = true → kn'.getD (ws.getD j (0, 0)).1 false = true),
    fun t14 _ => ws.length - (intOf t14).toNat, ⟨0, vals, kn, by omega, rfl, h, fun _ h => h, fun j hj => by omega⟩, ?_⟩
  rintro _ _ wq ⟨k, vals', kn', hk1, rfl, hS, hmono, hdone⟩
  rw [lnv]
  by_cases hlt : k < ws.length
  case neg =>
    have hlt' : ¬ (k : Int) < (ws.length : Int) := by omega
    obtain rfl : k = ws.length := by omega
    simp only [r_lss, decide_eq_false hlt', r_condF]
    rw [r_add _ _ (by omega) (by omega)]
    exact hk wq vals' kn' hS hmono fun e he => by
      obtain ⟨j, hj, rfl⟩ := List.mem_iff_getElem.1 he
      have := hdone j hj
      rwa [getD_lt _ _ _ hj] at this
  have hlt' : (k : Int) < (ws.length : Int) := by omega
  simp only [r_lss, decide_eq_true hlt', r_condT]
  refine r_drew fun w2 k2 _ => ?_
  have hS2 := hS.later k2
  have hw := hwf (ws.getD k (0, 0)) (by rw [getD_lt _ _ _ hlt]; exact List.getElem_mem hlt)
  have hck := hc k hlt
  obtain ⟨b, o, ia, cA, cB⟩ := wire_two (hr.kp hS2.kp) hlt
  have hdone2 : ∀ kn3 : List Bool, (∀ x, kn'.getD x false = true → kn3.getD x false = true) → (kn'.getD (ws.getD k (0, 0)).1 false = true → kn3.getD (ws.getD k (0, 0)).2 false = true) → (kn'.getD (ws.getD k (0, 0)).2 false = true → kn3.getD (ws.getD k (0, 0)).1 false = true) →
      ∀ j, j < k + 1 → (kn.getD (ws.getD j (0, 0)).1 false = true → kn3.getD (ws.getD j (0, 0)).2 false = true) ∧ (kn.getD (ws.getD j (0, 0)).2 false = true → kn3.getD (ws.getD j (0, 0)).1 false = true) := fun kn3 m1 m2 m3 j hj => by
    by_cases e : j = k
    · subst e
      exact ⟨fun h => m2 (hmono _ h), fun h => m3 (hmono _ h)⟩
    · have := hdone j (by omega)
      exact ⟨fun h => m1 _ (this.1 h), fun h => m1 _ (this.2 h)⟩
  generalize ws.getD k (0, 0) = e at *
  obtain ⟨A, B⟩ := e
  simp only at cA cB hw hck hdone2
  obtain ⟨hA, hB, hAB⟩ := hw
  rw [ia, r_fa, r_ld cA, ia, r_fa, r_ld cB]
  refine half1 hA hB hp hcv (by omega) hck hS2 fun w3 vals3 kn3 hS3 m1 m2 => ?_
  refine half2 hA hB hp hcv (by omega) hck hS3 fun w4 vals4 kn4 hS4 m3 m4 => ?_
  rw [r_add _ _ (by omega) (by omega)]
  exact ⟨⟨k + 1, vals4, kn4, by omega, by go_num, hS4, fun x hx => m3 _ (m1 _ (hmono x hx)), hdone2 kn4 (fun x hx => m3 _ (m1 x hx)) (fun hx => m3 _ (m2 hx)) fun hx => m4 (m1 _ hx)⟩, by simp only [intOf]; omega⟩

end Go.Proofs.YtkdcldbedbagjaaDoor

/- Sets of wires as numbers, and forests of parts, plainly. No program. -/
namespace Go.Dt
open Classical

/-- The wires whose bits are set. -/
def pick : List Wr → Nat → List Wr
  | [], _ => []
  | e :: l, m => if m % 2 = 0 then pick l (m / 2) else e :: pick l (m / 2)

theorem pick_sub : ∀ (l : List Wr) (m : Nat), (pick l m).Sublist l
  | [], _ => List.Sublist.refl _
  | e :: l, m => by
    unfold pick
    split
    · exact (pick_sub l _).cons _
    · exact (pick_sub l _).cons_cons _

def cF (f : Nat → Bool) (n : Nat) : Nat := ((List.range n).filter f).length
theorem cF_succ (f : Nat → Bool) (n : Nat) : cF f (n + 1) = cF f n + if f n = true then 1 else 0 := by
  unfold cF
  rw [List.range_succ, List.filter_append, List.length_append]
  by_cases h : f n = true
  · rw [if_pos h]; simp [h]
  · rw [if_neg h]; simp [h]
theorem cF_two (f : Nat → Bool) : ∀ n, cF f (2 * n) = cF (fun m => f (2 * m)) n + cF (fun m => f (2 * m + 1)) n
  | 0 => rfl
  | n + 1 => by
    rw [show 2 * (n + 1) = 2 * n + 1 + 1 by omega, cF_succ, cF_succ, cF_two f n, cF_succ, cF_succ]
    omega
theorem cF_congr {f g : Nat → Bool} {n : Nat} (h : ∀ m, m < n → f m = g m) : cF f n = cF g n := by
  unfold cF
  congr 1
  exact List.filter_congr fun m hm => h m (List.mem_range.1 hm)

/-- As many sets as sublists. -/
theorem pick_cnt : ∀ (l : List Wr) (P : List Wr → Prop), cF (fun m => decide (P (pick l m))) (2 ^ l.length) = cnt P l
  | [], P => by
    unfold cnt cF
    by_cases h : P [] <;> simp [pick, h, List.range_succ]
  | e :: l, P => by
    rw [List.length_cons, Nat.pow_succ, Nat.mul_comm, cF_two, cnt_cons, ← pick_cnt l P, ← pick_cnt l fun s => P (e :: s)]
    congr 1
    · refine cF_congr fun m _ => ?_
      have : pick (e :: l) (2 * m) = pick l m := by unfold pick; rw [if_pos (by omega), show 2 * m / 2 = m by omega]; cases l <;> rfl
      rw [this]
    · refine cF_congr fun m _ => ?_
      have : pick (e :: l) (2 * m + 1) = e :: pick l m := by
        show (if (2 * m + 1) % 2 = 0 then pick l ((2 * m + 1) / 2) else e :: pick l ((2 * m + 1) / 2)) = _
        rw [if_neg (by omega), show (2 * m + 1) / 2 = m by omega]
      rw [this]

/-- Bits of a set. -/
def ones : Nat → Nat → Nat
  | 0, _ => 0
  | k + 1, m => m % 2 + ones k (m / 2)
theorem pick_len : ∀ (l : List Wr) (m : Nat), (pick l m).length = ones l.length m
  | [], _ => rfl
  | e :: l, m => by
    unfold pick
    simp only [List.length_cons, ones]
    split
    · rw [pick_len l]; omega
    · rw [List.length_cons, pick_len l]; omega

theorem pick_take : ∀ (l : List Wr) (m i : Nat) (h : i < l.length), pick (l.take (i + 1)) m = pick (l.take i) m ++ if m / 2 ^ i % 2 = 0 then [] else [l[i]]
  | e :: l, m, 0, _ => by
    simp only [List.take_succ_cons, List.take_zero, pick, Nat.pow_zero, Nat.div_one, List.nil_append, List.getElem_cons_zero]
  | e :: l, m, i + 1, h => by
    have ih := pick_take l (m / 2) i (by simpa using h)
    simp only [List.take_succ_cons, pick, List.getElem_cons_succ]
    rw [ih, Nat.div_div_eq_div_mul, show 2 * 2 ^ i = 2 ^ (i + 1) by rw [Nat.pow_succ]; omega]
    split <;> rfl

/-! ### forests of parts -/
inductive RootOf (part : Nat → Nat) : Nat → Nat → Prop
  | self {v : Nat} : part v = v → RootOf part v v
  | step {v r : Nat} : part v ≠ v → RootOf part (part v) r → RootOf part v r
theorem RootOf.uniq {part : Nat → Nat} {v r r' : Nat} (h : RootOf part v r) (h' : RootOf part v r') : r = r' := by
  induction h with
  | self h => cases h' with
    | self => rfl
    | step h2 _ => exact absurd h h2
  | step h _ ih => cases h' with
    | self h2 => exact absurd h2 h
    | step _ h3 => exact ih h3
theorem RootOf.root {part : Nat → Nat} {v r : Nat} (h : RootOf part v r) : part r = r := by
  induction h with
  | self h => exact h
  | step _ _ ih => exact ih

structure UF (n : Nat) (part : Nat → Nat) (l : List Wr) : Prop where
  lt : ∀ v, v < n → part v < n
  dep : ∃ d : Nat → Nat, ∀ v, v < n → part v ≠ v → d (part v) < d v
  conn : ∀ v, v < n → Conn l v (part v)
  same : ∀ e ∈ l, ∃ r, RootOf part e.1 r ∧ RootOf part e.2 r
  roots : cntS n (fun v => decide (part v = v)) + l.length = n

theorem UF.has {n : Nat} {part : Nat → Nat} {l : List Wr} (h : UF n part l) {v : Nat} (hv : v < n) : ∃ r, r < n ∧ RootOf part v r := by
  obtain ⟨d, hd⟩ := h.dep
  have key : ∀ k v, d v ≤ k → v < n → ∃ r, r < n ∧ RootOf part v r := by
    intro k
    induction k with
    | zero =>
      intro v hk hv
      by_cases e : part v = v
      · exact ⟨v, hv, .self e⟩
      · have := hd v hv e; omega
    | succ k ih =>
      intro v hk hv
      by_cases e : part v = v
      · exact ⟨v, hv, .self e⟩
      · obtain ⟨r, hr, h1⟩ := ih (part v) (by have := hd v hv e; omega) (h.lt v hv)
        exact ⟨r, hr, .step e h1⟩
  exact key (d v) v (Nat.le_refl _) hv
theorem UF.root_conn {n : Nat} {part : Nat → Nat} {l : List Wr} (h : UF n part l) {v r : Nat} (hv : v < n) (hr : RootOf part v r) : Conn l v r := by
  induction hr with
  | self => exact .refl _
  | step _ _ ih => exact (h.conn _ hv).trans (ih (h.lt _ hv))
theorem UF.conn_root {n : Nat} {part : Nat → Nat} {l : List Wr} (h : UF n part l) {u v r : Nat} (c : Conn l u v) (hr : RootOf part u r) : RootOf part v r := by
  induction c with
  | refl => exact hr
  | step _ h2 ih =>
    rcases h2 with h2 | h2
    · obtain ⟨r', h3, h4⟩ := h.same _ h2
      rw [ih.uniq h3]; exact h4
    · obtain ⟨r', h3, h4⟩ := h.same _ h2
      rw [ih.uniq h4]; exact h3

theorem UF.start (n : Nat) : UF n (fun v => v) [] :=
  ⟨fun _ h => h, ⟨fun _ => 0, fun v _ h => absurd rfl h⟩, fun _ _ => .refl _, fun _ h => (by cases h), (by rw [cnt_all fun v _ => by simp]; rfl)⟩

def link (part : Nat → Nat) (a b : Nat) : Nat → Nat := fun v => if v = a then b else part v
theorem root_link {part : Nat → Nat} {a b v r : Nat} (ha : part a = a) (hb : part b = b) (hab : a ≠ b) (h : RootOf part v r) : RootOf (link part a b) v (if r = a then b else r) := by
  have hbb : RootOf (link part a b) b b := .self (by unfold link; rw [if_neg (Ne.symm hab)]; exact hb)
  have haa : RootOf (link part a b) a b := .step (by unfold link; rw [if_pos rfl]; exact Ne.symm hab) (by unfold link; rw [if_pos rfl]; exact hbb)
  induction h with
  | self h =>
    rename_i v
    by_cases e : v = a
    · subst e; rw [if_pos rfl]; exact haa
    · rw [if_neg e]; exact .self (by unfold link; rw [if_neg e]; exact h)
  | step h1 _ ih =>
    rename_i v r _
    by_cases e : v = a
    · subst e; exact absurd ha h1
    · have el : link part a b v = part v := by unfold link; rw [if_neg e]
      exact .step (by rw [el]; exact h1) (by rw [el]; exact ih)

theorem UF.join {n : Nat} {part : Nat → Nat} {l : List Wr} (h : UF n part l) {e : Wr} {a b : Nat} (h1 : e.1 < n) (h2 : e.2 < n) (ha : RootOf part e.1 a) (hb : RootOf part e.2 b) (la : a < n) (lb : b < n) (hab : a ≠ b) : UF n (link part a b) (l ++ [e]) := by
  have ra := ha.root
  have rb := hb.root
  have up : ∀ x ∈ l, x ∈ l ++ [e] := fun x hx => List.mem_append_left _ hx
  refine ⟨fun v hv => ?_, ?_, fun v hv => ?_, fun x hx => ?_, ?_⟩
  · unfold link; split
    · exact lb
    · exact h.lt v hv
  · obtain ⟨d, hd⟩ := h.dep
    refine ⟨fun v => if RootOf part v a then d v + d b + 1 else d v, fun v hv hne => ?_⟩
    show (if RootOf part (link part a b v) a then d (link part a b v) + d b + 1 else d (link part a b v)) < (if RootOf part v a then d v + d b + 1 else d v)
    by_cases e1 : v = a
    · have hnb : ¬ RootOf part b a := fun hh => hab (hh.uniq (.self rb))
      have el : link part a b v = b := if_pos e1
      rw [el, if_neg hnb, e1, if_pos (RootOf.self ra)]
      omega
    · have el : link part a b v = part v := if_neg e1
      rw [el] at hne ⊢
      have hlt := hd v hv hne
      by_cases e2 : RootOf part v a
      · have e3 : RootOf part (part v) a := by
          cases e2 with
          | self hh => exact absurd hh hne
          | step _ hh => exact hh
        rw [if_pos e2, if_pos e3]; omega
      · have e3 : ¬ RootOf part (part v) a := fun hh => e2 (.step hne hh)
        rw [if_neg e2, if_neg e3]; exact hlt
  · unfold link
    by_cases e1 : v = a
    · subst e1
      rw [if_pos rfl]
      exact ((h.root_conn h1 ha).symm.mono up).trans ((Conn.one (.inl (by simp))).trans ((h.root_conn h2 hb).mono up))
    · rw [if_neg e1]; exact (h.conn v hv).mono up
  · rcases List.mem_append.1 hx with hx | hx
    · obtain ⟨r, q1, q2⟩ := h.same x hx
      exact ⟨_, root_link ra rb hab q1, root_link ra rb hab q2⟩
    · obtain rfl : x = e := by simpa using hx
      have q1 := root_link ra rb hab ha
      have q2 := root_link ra rb hab hb
      rw [if_pos rfl] at q1
      rw [if_neg (Ne.symm hab)] at q2
      exact ⟨b, q1, q2⟩
  · have hold := h.roots
    have e1 : (fun v => decide (part v = v)) = ins (fun v => decide (link part a b v = v)) a := by
      funext v
      unfold ins link
      by_cases e1 : v = a
      · subst e1; simp [ra]
      · simp [e1]
    rw [e1, cnt_ins (by unfold link; simp [Ne.symm hab]) la] at hold
    rw [List.length_append, List.length_singleton]
    omega

/-- All is joined: a tree. -/
theorem UF.tree {n : Nat} {part : Nat → Nat} {l : List Wr} (h : UF n part l) (hn : 1 ≤ n) (hl : l.length = n - 1) : RF n (one 0) l := by
  have h1 : cntS n (fun v => decide (part v = v)) = 1 := by have := h.roots; omega
  refine ⟨by rw [cnt_one (by omega)]; omega, fun v hv => ⟨0, by omega, one_self 0, ?_⟩⟩
  obtain ⟨r, lr, hr⟩ := h.has hv
  obtain ⟨r0, lr0, hr0⟩ := h.has (show 0 < n by omega)
  have e : r = r0 := Classical.byContradiction fun hne => by
    have e1 : (fun v => decide (part v = v)) = ins (ins (fun v => decide (part v = v ∧ v ≠ r ∧ v ≠ r0)) r) r0 := by
      funext v
      unfold ins
      by_cases a1 : v = r
      · subst a1; simp [hr.root]
      · by_cases a2 : v = r0
        · subst a2; simp [hr0.root]
        · simp [a1, a2]
    rw [e1, cnt_ins (by simp [ins, Ne.symm hne]) lr0, cnt_ins (by simp) lr] at h1
    omega
  subst e
  exact (h.root_conn hv hr).trans (h.root_conn (by omega) hr0).symm

/-- Ends that are joined already: no tree. -/
theorem not_tree {n : Nat} {l m : List Wr} {e : Wr} (hl : Wf n (l ++ e :: m)) (hn : 1 ≤ n) (c : Conn l e.1 e.2) : ¬ RF n (one 0) (l ++ e :: m) := fun h => by
  have hs : Spans n (one 0) (l ++ m) := fun v hv => by
    obtain ⟨s, h1, h2, h3⟩ := h.2 v hv
    refine ⟨s, h1, h2, ?_⟩
    have c' : Conn (l ++ m) e.1 e.2 := c.mono fun x hx => List.mem_append_left _ hx
    clear h1 h2
    induction h3 with
    | refl => exact .refl _
    | step _ h4 ih =>
      rename_i u w _
      have go : ∀ x y, (x, y) ∈ l ++ e :: m → Conn (l ++ m) x y := fun x y hxy => by
        rcases List.mem_append.1 hxy with q | q
        · exact .one (.inl (List.mem_append_left _ q))
        · rcases List.mem_cons.1 q with q | q
          · rw [← q] at c'; exact c'
          · exact .one (.inl (List.mem_append_right _ q))
      rcases h4 with h4 | h4
      · exact ih.trans (go _ _ h4)
      · exact ih.trans (go _ _ h4).symm
  have hc := Spans.count (fun x hx => hl x (by rcases List.mem_append.1 hx with q | q; exact List.mem_append_left _ q; exact List.mem_append_right _ (List.mem_cons_of_mem _ q))) hs
  have := h.1
  rw [cnt_one (by omega)] at this hc
  simp only [List.length_append, List.length_cons] at this hc
  omega

end Go.Dt
