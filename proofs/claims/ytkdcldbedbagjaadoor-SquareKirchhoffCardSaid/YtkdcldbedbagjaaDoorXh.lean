/- SquareKirchhoff: the numbers of trees are determinants of the Laplacian matrix. -/
import Derived.Test.YtkdcldbedbagjaaDoorXg
set_option linter.all false
namespace Go.Proofs.YtkdcldbedbagjaaDoor
open Go.Lf Go.RowKit Go.Dt

theorem lap_small {n : Nat} : ∀ {ws : List Wr}, Wf n ws → ∀ i j, (lap ws i j).natAbs ≤ ws.length
  | [], _, i, j => by simp [lap]
  | e :: l, h, i, j => by
    have ih := lap_small (fun x hx => h x (List.mem_cons_of_mem _ hx)) i j
    have he := ends_val e (h e (List.mem_cons_self ..)).2.2 i j
    simp only [lap, List.length_cons]
    rw [he]
    split <;> split <;> omega

theorem keep_same (n s : Nat) : keepN n [(s : Int), (s : Int)] = keepN n [(s : Int)] := by
  unfold keepN
  congr 1
  funext i
  simp

set_option maxRecDepth 100000 in
/-- determinant of laplacian -/
theorem lapdet {n s t : Nat} {ws : List Wr} {v : Value} {w : World} {K : Value → World → Prop} (hN : NetOk n ws) (hr : Rd 2 wN w v ws) (hs : s < n) (ht : t < n)
    (hk : ∀ w', Kp w w' → K (.int .i64 (if s = t then trees n ws else volt n ws s t)) w') :
    callW Tryd.prog (.func (.func 33) #[] #[]) [.int .i64 n, v, .int .i64 s, .int .i64 t] w fun t59 w => callW Tryd.prog (.func (.func 32) #[] #[]) [t59] w K := by
  have h8 := hN.most
  have h2 := hN.two
  refine r_use fok33 (laplacian_calls (s := s) (t := t) w hN hr) rfl ?_
  rintro _ w1 ⟨k1, v1, rfl, hM⟩
  refine ⟨_, rfl, ?_⟩
  have hlen : (keepN n [(s : Int), (t : Int)]).length ≤ 7 := by
    by_cases h : s = t
    · subst h; rw [keep_same, keep_one_len hs]; omega
    · rw [keep_two_len ht hs h]; omega
  have hb : ∀ i j, i < (keepN n [(s : Int), (t : Int)]).length → j < (keepN n [(s : Int), (t : Int)]).length → (hat (redM n [(s : Int), (t : Int)] (lap ws)) i j).natAbs ≤ 16 := fun i j hi hj => by
    rw [red_hat hi hj]
    exact Nat.le_trans (lap_small hN.wf _ _) hN.few
  refine r_use fok32 (rdet_calls _ w1 hlen (red_sized n _ _) hb hM) rfl ?_
  rintro _ w2 ⟨rfl, k2⟩
  refine ⟨_, rfl, ?_⟩
  have e : det (keepN n [(s : Int), (t : Int)]).length (hat (redM n [(s : Int), (t : Int)] (lap ws))) = (if s = t then trees n ws else volt n ws s t : Nat) := by
    by_cases h : s = t
    · subst h
      have e1 : redM n [(s : Int), (s : Int)] (lap ws) = redM n [(s : Int)] (lap ws) := by unfold redM; rw [keep_same]
      rw [if_pos rfl, keep_same, keep_one_len hs, e1, det_red1 ws hs, det_trees hN.wf hs]
    · rw [if_neg h, keep_two_len ht hs h, det_red2 ws ht hs h, det_volt hN.wf]
  rw [e]
  have := hk w2 (Kp.trans k1 k2)
  split at this <;> simp_all

set_option maxRecDepth 100000 in
set_option maxHeartbeats 1000000 in
theorem law_kirchhoff {v : Value} {L : List (Int × Int)} (n s t : Int) (W0 : World) (hw : Wh W0) (hr : RdW W0 v L) : Calls Tryd.prog 7 #[.int .i64 n, v, .int .i64 s, .int .i64 t] W0 fun e w' => e = .returned (.bool true) ∧ Kp W0 w' := by
  refine lift7 ?_
  unfold S7
  refine r_use fok21 (few_calls W0 hr) rfl ?_
  rintro _ _ ⟨rfl, rfl⟩
  refine ⟨_, rfl, ?_⟩
  have fin : ∀ w' : World, Kp W0 w' → callW Tryd.prog (.func (.func 14) #[] #[]) [] w' fun t w1 => Ending.returned t = .returned (.bool true) ∧ Kp W0 w1 := fun w' k => by
    refine r_use fok14 (alive_calls w' (hw.kp k)) rfl ?_
    rintro _ w4 ⟨rfl, k4⟩
    exact ⟨_, rfl, rfl, Kp.trans k k4⟩
  by_cases h40 : L.length ≤ 40
  case neg =>
    simp (disch := omega) only [r_ln, r_pick, r_pickT, r_pickF, r_condT, r_condF, r_gdTT, r_gdFF, r_gdTF, r_gdFT, r_gqTT, r_gqFF, r_gqTF, r_gqFT, r_not, r_lss, r_leq, r_gtr, r_geq, r_eql, r_neq, r_add, r_sub, r_min2, r_max2, r_min3, r_max3, r_fa, r_iaS, r_iaA, r_ex2a, r_ex2b, r_ex3a, r_ex3b, r_ex3c, r_nc, r_keepE, Nat.zero_add, Nat.add_zero, Nat.mul_one, Int.toNat_natCast, toNat_sub1, toNat_add1, decide_true, decide_false, Bool.not_true, Bool.not_false, if_true, if_false, Bool.false_eq_true, reduceCtorEq, h40]
    exact fin W0 (Kp.refl _)
  simp (disch := omega) only [r_ln, r_pick, r_pickT, r_pickF, r_condT, r_condF, r_gdTT, r_gdFF, r_gdTF, r_gdFT, r_gqTT, r_gqFF, r_gqTF, r_gqFT, r_not, r_lss, r_leq, r_gtr, r_geq, r_eql, r_neq, r_add, r_sub, r_min2, r_max2, r_min3, r_max3, r_fa, r_iaS, r_iaA, r_ex2a, r_ex2b, r_ex3a, r_ex3b, r_ex3c, r_nc, r_keepE, Nat.zero_add, Nat.add_zero, Nat.mul_one, Int.toNat_natCast, toNat_sub1, toNat_add1, decide_true, decide_false, Bool.not_true, Bool.not_false, if_true, if_false, Bool.false_eq_true, reduceCtorEq, h40]
  refine r_use fok24 (Trees_calls (n := n) W0 hw hr) rfl ?_
  rintro _ w1 ⟨k1, rfl⟩
  refine ⟨_, rfl, ?_⟩
  rw [r_ex2a, r_ex2b]
  refine r_use fok26 (Merged_calls (n := n) (s := s) (t := t) w1 (hw.kp k1) (hr.kp k1)) rfl ?_
  rintro _ w2 ⟨k2, rfl⟩
  refine ⟨_, rfl, ?_⟩
  rw [r_ex2a, r_ex2b]
  have k02 := Kp.trans k1 k2
  have hself : ∀ (q : Int), decide (q = q) = true := fun q => decide_eq_true rfl
  by_cases hE : endErr n L s t = 0
  case neg =>
    have bad : callW Tryd.prog (.func (.func 30) #[] #[]) [.int .i64 n, v] w2 fun t40 w => binQ Tryd.prog w .eql 24 false (.int .i64 (netErr n L)) t40 fun t41 =>
        gd t41 true (fun k => k (.int .i64 (endErr n L s t)) w) w fun t43 w => gd t41 true (fun k => k (.int .i64 n) w) w fun t44 w => gd t41 true (fun k => k v w) w fun t45 w => gd t41 true (fun k => k (.int .i64 s) w) w fun t46 w => gd t41 true (fun k => k (.int .i64 t) w) w fun t47 w =>
        gd t41 true (fun k => callW Tryd.prog (.func (.func 31) #[] #[]) [t44, t45, t46, t47] w k) w fun t48 w => gd t41 true (fun k => binQ Tryd.prog w .eql 24 false t43 t48 fun v => k v w) w fun t49 w => pickQ t41 t49 (.bool false) fun t50 =>
        gd t50 true (fun k => callW Tryd.prog (.func (.func 14) #[] #[]) [] w k) w fun t52 w => pickQ t50 t52 (.bool false) fun t53 => Ending.returned t53 = .returned (.bool true) ∧ Kp W0 w := by
      refine r_use fok30 (good_calls (n := n) w2 (hr.kp k02)) rfl ?_
      rintro _ w3 ⟨rfl, k3⟩
      refine ⟨_, rfl, ?_⟩
      rw [r_eql, hself]
      simp only [r_ln, r_pick, r_pickT, r_pickF, r_condT, r_condF, r_gdTT, r_gdFF, r_gdTF, r_gdFT, r_gqTT, r_gqFF, r_gqTF, r_gqFT, r_not, r_lss, r_leq, r_gtr, r_geq, r_eql, r_neq, r_add, r_sub, r_min2, r_max2, r_min3, r_max3, r_fa, r_iaS, r_iaA, r_ex2a, r_ex2b, r_ex3a, r_ex3b, r_ex3c, r_nc, r_keepE, Nat.zero_add, Nat.add_zero, Nat.mul_one, Int.toNat_natCast, toNat_sub1, toNat_add1, decide_true, decide_false, Bool.not_true, Bool.not_false, if_true, if_false, Bool.false_eq_true, reduceCtorEq]
      refine r_use fok31 (ends_calls (n := n) (s := s) (t := t) w3 (hr.kp (Kp.trans k02 k3))) rfl ?_
      rintro _ w4 ⟨rfl, k4⟩
      refine ⟨_, rfl, ?_⟩
      rw [r_eql, hself]
      simp only [r_ln, r_pick, r_pickT, r_pickF, r_condT, r_condF, r_gdTT, r_gdFF, r_gdTF, r_gdFT, r_gqTT, r_gqFF, r_gqTF, r_gqFT, r_not, r_lss, r_leq, r_gtr, r_geq, r_eql, r_neq, r_add, r_sub, r_min2, r_max2, r_min3, r_max3, r_fa, r_iaS, r_iaA, r_ex2a, r_ex2b, r_ex3a, r_ex3b, r_ex3c, r_nc, r_keepE, Nat.zero_add, Nat.add_zero, Nat.mul_one, Int.toNat_natCast, toNat_sub1, toNat_add1, decide_true, decide_false, Bool.not_true, Bool.not_false, if_true, if_false, Bool.false_eq_true, reduceCtorEq]
      have k04 := Kp.trans k02 (Kp.trans k3 k4)
      refine r_use fok14 (alive_calls w4 (hw.kp k04)) rfl ?_
      rintro _ w5 ⟨rfl, k5⟩
      exact ⟨_, rfl, rfl, Kp.trans k04 k5⟩
    by_cases h0 : netErr n L = 0
    · rw [r_neq, decide_eq_true h0]
      simp only [r_gdFF, r_gdTT, r_gdTF, r_gdFT, r_gdU, r_neq, decide_eq_false hE, Bool.not_true, Bool.not_false, r_pickF, r_condT]
      exact bad
    · rw [r_neq, decide_eq_false h0]
      simp only [r_gdFF, r_gdTT, r_gdTF, r_gdFT, r_gdU, r_neq, Bool.not_true, Bool.not_false, r_pickT, r_condT]
      exact bad
  obtain ⟨h0, S, T, rfl, rfl, hS, hT, hST⟩ := end_ok hE
  obtain ⟨N, rfl, hN, hb⟩ := net_ok h0
  have hT0 : treesV N L = trees N (L.map natW) := by unfold treesV; rw [if_pos h0]; rfl
  have hM0 : mergedV N L S T = volt N (L.map natW) S T := by unfold mergedV; rw [if_pos hE]; rfl
  rw [hT0, hM0, h0, hE]
  have n00 : decide ((0 : Int) = 0) = true := rfl
  simp only [r_neq, n00, Bool.not_true, r_gdFF, r_pickF, r_condF]
  refine lapdet hN (RdW.nat (hr.kp k02) hb) (by omega) (by omega) fun w3 k3 => ?_
  rw [if_pos rfl, r_eql, hself]
  simp only [r_gdTT]
  have k03 := Kp.trans k02 k3
  refine lapdet hN (RdW.nat (hr.kp k03) hb) (by omega) (by omega) fun w4 k4 => ?_
  rw [if_pos rfl, r_eql, hself]
  simp only [r_gdTT, r_pickT]
  have k04 := Kp.trans k03 k4
  refine lapdet hN (RdW.nat (hr.kp k04) hb) (by omega) (by omega) fun w5 k5 => ?_
  rw [if_neg hST, r_eql, hself]
  simp only [r_gdTT, r_pickT]
  have k05 := Kp.trans k04 k5
  refine r_use fok14 (alive_calls w5 (hw.kp k05)) rfl ?_
  rintro _ w6 ⟨rfl, k6⟩
  exact ⟨_, rfl, rfl, Kp.trans k05 k6⟩

end Go.Proofs.YtkdcldbedbagjaaDoor
