/- Contract: Run of the specification. -/
import Derived.Test.YtgalbokmgffhkaaD12
set_option linter.all false
namespace Go.Proofs.Ytgalbokmgffhkaa
open Go.Lf Go.RowKit Go.Wg

set_option maxRecDepth 100000 in
theorem r42_1 {w2 w : World} {b1 s : Nat} {tv v : Value} {T : List Ent} {tape : List Int} {n : Int} {R : Ending → World → Prop}
    (h1 : w2.heap[b1]? = some (.cells #[.int .i64 s, tv] 51 (0, 0))) (hr : RdE w2 tv T) (hT : TOk s T) (hb : ∀ c ∈ tape, 0 ≤ c ∧ c ≤ 1) (hn0 : 0 ≤ n ∧ n ≤ 4) (hl : tape.length ≤ 100) (hP : IntsAt w2.heap.size w v tape) (k : Kp w2 w)
    (hn : ∀ w', IntsAt w2.heap.size w' v (runM T (tape, 0, 0) n.toNat).1 → Kp w2 w' → R (.returned (.tuple #[v, .int .i64 (runM T (tape, 0, 0) n.toNat).2.1, .int .i64 (runM T (tape, 0, 0) n.toNat).2.2, .int .i64 0])) w') :
    S42L1 (.int .i64 n) (pb b1) v R w := by
  unfold S42L1
  have hok := MOk.run hT (mOk_start hT.s1 hb)
  refine ⟨fun t12 t13 t14 wr => ∃ i : Nat, (i : Int) ≤ n ∧ t14 = .int .i64 i ∧ t12 = .int .i64 (runM T (tape, 0, 0) i).2.1 ∧ t13 = .int .i64 (runM T (tape, 0, 0) i).2.2 ∧ IntsAt w2.heap.size wr v (runM T (tape, 0, 0) i).1 ∧ Kp w2 wr, fun _ _ t14 _ => n.toNat - (intOf t14).toNat, ⟨0, by omega, rfl, rfl, rfl, hP, k⟩, ?_⟩
  rintro _ _ _ _ wr ⟨i, hi, rfl, rfl, rfl, hPi, kr⟩
  have hx := hok i
  have hs2 := hT.s2
  have hq := hx.q
  have ha := hx.a
  have hlen := hx.len
  have hrun : runM T (tape, 0, 0) (i + 1) = stp T (runM T (tape, 0, 0) i) := rfl
  generalize hX : runM T (tape, 0, 0) i = x at *
  by_cases hlt : (i : Int) < n
  case neg =>
    have ei : n.toNat = i := by omega
    rw [ei, hX] at hn
    simp (disch := omega) only [r_ln, r_pick, r_pickT, r_pickF, r_condT, r_condF, r_gdTT, r_gdFF, r_gdTF, r_gdFT, r_gqTT, r_gqFF, r_gqTF, r_gqFT, r_not, r_lss, r_leq, r_gtr, r_geq, r_eql, r_neq, r_add, r_sub, r_min2, r_max2, r_min3, r_max3, r_fa, r_iaS, r_iaA, r_ex2a, r_ex2b, r_ex3a, r_ex3b, r_ex3c, r_nc, r_keepE, Nat.zero_add, Nat.add_zero, Nat.mul_one, Int.toNat_natCast, toNat_sub1, toNat_add1, decide_true, decide_false, Bool.not_true, Bool.not_false, if_true, if_false, Bool.false_eq_true, reduceCtorEq, hlt]
    exact hn wr hPi kr
  by_cases hg : goes x
  case neg =>
    have est : runM T (tape, 0, 0) n.toNat = x := by rw [runM_stop (i := i) (by rw [hX]; exact hg) _ (by omega), hX]
    rw [est] at hn
    obtain ⟨a38, c38, e38, _⟩ := hPi.len
    subst e38
    by_cases g1 : 0 ≤ x.2.2
    case neg =>
      simp (disch := omega) only [r_ln, r_pick, r_pickT, r_pickF, r_condT, r_condF, r_gdTT, r_gdFF, r_gdTF, r_gdFT, r_gqTT, r_gqFF, r_gqTF, r_gqFT, r_not, r_lss, r_leq, r_gtr, r_geq, r_eql, r_neq, r_add, r_sub, r_min2, r_max2, r_min3, r_max3, r_fa, r_iaS, r_iaA, r_ex2a, r_ex2b, r_ex3a, r_ex3b, r_ex3c, r_nc, r_keepE, Nat.zero_add, Nat.add_zero, Nat.mul_one, Int.toNat_natCast, toNat_sub1, toNat_add1, decide_true, decide_false, Bool.not_true, Bool.not_false, if_true, if_false, Bool.false_eq_true, reduceCtorEq, decide_eq_true hlt, g1]
      exact hn wr hPi kr
    by_cases g2 : 0 ≤ x.2.1
    case neg =>
      simp (disch := omega) only [r_ln, r_pick, r_pickT, r_pickF, r_condT, r_condF, r_gdTT, r_gdFF, r_gdTF, r_gdFT, r_gqTT, r_gqFF, r_gqTF, r_gqFT, r_not, r_lss, r_leq, r_gtr, r_geq, r_eql, r_neq, r_add, r_sub, r_min2, r_max2, r_min3, r_max3, r_fa, r_iaS, r_iaA, r_ex2a, r_ex2b, r_ex3a, r_ex3b, r_ex3c, r_nc, r_keepE, Nat.zero_add, Nat.add_zero, Nat.mul_one, Int.toNat_natCast, toNat_sub1, toNat_add1, decide_true, decide_false, Bool.not_true, Bool.not_false, if_true, if_false, Bool.false_eq_true, reduceCtorEq, decide_eq_true hlt, decide_eq_true g1, g2]
      exact hn wr hPi kr
    have g3 : ¬ x.2.1 < (x.1.length : Int) := fun h => hg ⟨g1, g2, h⟩
    simp (disch := omega) only [r_ln, r_pick, r_pickT, r_pickF, r_condT, r_condF, r_gdTT, r_gdFF, r_gdTF, r_gdFT, r_gqTT, r_gqFF, r_gqTF, r_gqFT, r_not, r_lss, r_leq, r_gtr, r_geq, r_eql, r_neq, r_add, r_sub, r_min2, r_max2, r_min3, r_max3, r_fa, r_iaS, r_iaA, r_ex2a, r_ex2b, r_ex3a, r_ex3b, r_ex3c, r_nc, r_keepE, Nat.zero_add, Nat.add_zero, Nat.mul_one, Int.toNat_natCast, toNat_sub1, toNat_add1, decide_true, decide_false, Bool.not_true, Bool.not_false, if_true, if_false, Bool.false_eq_true, reduceCtorEq, decide_eq_true hlt, decide_eq_true g1, decide_eq_true g2, g3]
    exact hn wr hPi kr
  obtain ⟨o, ho1, ho2, holt, hget, hmem⟩ := entAt_get hT hx hg
  have hE := hT.ent _ hmem
  generalize hEe : entAt T x = e at *
  obtain ⟨g1, g2, g3⟩ := hg
  have halt : x.2.1.toNat < x.1.length := by omega
  have hxa : x.1[x.2.1.toNat]? = some (x.1[x.2.1.toNat]) := List.getElem?_eq_getElem halt
  have hxa' : x.1[x.2.1.toNat] = (o : Int) := by rw [← ho2, getD_lt _ _ _ halt]
  obtain ⟨g, cap, ev, hgb, _, _, _⟩ := hPi.set (u := .int .i64 e.1) (p' := e.1) iC_len hxa (by omega : 0 < 1) rfl
  subst ev
  simp (disch := omega) only [r_ln, r_pick, r_pickT, r_pickF, r_condT, r_condF, r_gdTT, r_gdFF, r_gdTF, r_gdFT, r_gqTT, r_gqFF, r_gqTF, r_gqFT, r_not, r_lss, r_leq, r_gtr, r_geq, r_eql, r_neq, r_add, r_sub, r_min2, r_max2, r_min3, r_max3, r_fa, r_iaS, r_iaA, r_ex2a, r_ex2b, r_ex3a, r_ex3b, r_ex3c, r_nc, r_keepE, Nat.zero_add, Nat.add_zero, Nat.mul_one, Int.toNat_natCast, toNat_sub1, toNat_add1, decide_true, decide_false, Bool.not_true, Bool.not_false, if_true, if_false, Bool.false_eq_true, reduceCtorEq, decide_eq_true hlt, decide_eq_true g1, decide_eq_true g2, decide_eq_true g3]
  refine r_drew fun w3 k3 _ => ?_
  have k23 := Kp.trans kr k3
  have hP3 := hPi.kp k3
  have cT : w3.cell? ⟨b1, 1, none⟩ = some tv := by rw [cell_row (block_below h1 k23)]; rfl
  have hP3r : Rd 1 iC w3 (.slice (some ⟨g, 0, none⟩) x.1.length cap) x.1 := hP3.rd iC_len
  obtain ⟨_, _, _, eq1, _, hcr⟩ := hP3r.at hxa
  cases eq1
  have cO : w3.cell? ⟨g, x.2.1.toNat, none⟩ = some (.int .i64 o) := by
    have := hcr 0 _ rfl
    simpa [iC, hxa'] using this
  obtain ⟨bt, off, capT, etv, _, hld⟩ := RdE.ent (hr.kp k23) hget
  subst etv
  have e2 : (2 * x.2.2 + (o : Int)).toNat = 2 * x.2.2.toNat + o := by omega
  simp (disch := omega) only [r_ln, r_pick, r_pickT, r_pickF, r_condT, r_condF, r_gdTT, r_gdFF, r_gdTF, r_gdFT, r_gqTT, r_gqFF, r_gqTF, r_gqFT, r_not, r_lss, r_leq, r_gtr, r_geq, r_eql, r_neq, r_add, r_sub, r_min2, r_max2, r_min3, r_max3, r_fa, r_iaS, r_iaA, r_ex2a, r_ex2b, r_ex3a, r_ex3b, r_ex3c, r_nc, r_keepE, Nat.zero_add, Nat.add_zero, Nat.mul_one, Int.toNat_natCast, toNat_sub1, toNat_add1, decide_true, decide_false, Bool.not_true, Bool.not_false, if_true, if_false, Bool.false_eq_true, reduceCtorEq, r_ld cT, r_mul, r_ld cO, e2, hld]
  refine r_box fun b4 w4 e4 s4 h4 k4 => ⟨k4, ?_⟩
  refine r_stAll (n := 3) (ty := 102) (by kernel_rfl) rfl (by intro u hu; simp [Value.cells] at hu; rcases hu with rfl | rfl | rfl <;> rfl) h4 rfl fun w6 d5 t5 h6 => ?_
  have k36 : Kp w3 w6 := Kp.of_chg k4 d5 fun i e => by omega
  have k26 := Kp.trans k23 k36
  have hP6 := hP3.kp k36
  have hgl := (hP3.lt (k := g) rfl).2
  have hgb : ¬ g = b4 := by omega
  obtain ⟨g', cap', ev', hgb', ⟨u0, cu⟩, hfr, hset⟩ := hP6.set (u := .int .i64 e.1) (p' := e.1) iC_len hxa (by omega : 0 < 1) rfl
  cases ev'
  simp only [Nat.mul_one, Nat.add_zero] at cu hfr hset
  have c0 : w6.cell? ⟨b4, 0, none⟩ = some (.int .i64 e.1) := by rw [cell_row h6]; rfl
  simp (disch := omega) only [r_ln, r_pick, r_pickT, r_pickF, r_condT, r_condF, r_gdTT, r_gdFF, r_gdTF, r_gdFT, r_gqTT, r_gqFF, r_gqTF, r_gqFT, r_not, r_lss, r_leq, r_gtr, r_geq, r_eql, r_neq, r_add, r_sub, r_min2, r_max2, r_min3, r_max3, r_fa, r_iaS, r_iaA, r_ex2a, r_ex2b, r_ex3a, r_ex3b, r_ex3c, r_nc, r_keepE, Nat.zero_add, Nat.add_zero, Nat.mul_one, Int.toNat_natCast, toNat_sub1, toNat_add1, decide_true, decide_false, Bool.not_true, Bool.not_false, if_true, if_false, Bool.false_eq_true, reduceCtorEq, r_ld c0]
  rw [st3 cu hfr]
  have hc : Chg (fun k => k = g) w6 (w6.setCell ⟨g, x.2.1.toNat, none⟩ (.int .i64 e.1)) := Chg.setCell _ _ rfl
  have k27 : Kp w2 (w6.setCell ⟨g, x.2.1.toNat, none⟩ (.int .i64 e.1)) := Kp.of_chg k26 hc fun i e => by omega
  have h7 := hc.at h6 (fun e => hgb e.symm)
  generalize hw7 : w6.setCell ⟨g, x.2.1.toNat, none⟩ (.int .i64 e.1) = w7 at *
  have c1 : w7.cell? ⟨b4, 1, none⟩ = some (.bool e.2.1) := by rw [cell_row h7]; rfl
  have c2 : w7.cell? ⟨b4, 2, none⟩ = some (.int .i64 e.2.2) := by rw [cell_row h7]; rfl
  have hstp : stp T x = (x.1.set x.2.1.toNat e.1, moved e x.2.1, e.2.2) := by rw [stp, if_pos ⟨g1, g2, g3⟩, hEe]
  rw [hstp] at hrun
  have fin : ∀ (v' : Value), v' = .int .i64 (moved e x.2.1) → ∀ K : Value → World → Prop, K (.int .i64 (moved e x.2.1)) w7 → K v' w7 := fun v' e K h => e ▸ h
  have hI : ∀ (t12 t13 t14 : Value), t12 = .int .i64 (moved e x.2.1) → t13 = .int .i64 e.2.2 → t14 = .int .i64 ((i : Int) + 1) → (∃ j : Nat, (j : Int) ≤ n ∧ t14 = .int .i64 j ∧ t12 = .int .i64 (runM T (tape, 0, 0) j).2.1 ∧ t13 = .int .i64 (runM T (tape, 0, 0) j).2.2 ∧ IntsAt w2.heap.size w7 (.slice (some ⟨g, 0, none⟩) x.1.length cap) (runM T (tape, 0, 0) j).1 ∧ Kp w2 w7) ∧ n.toNat - (intOf t14).toNat < n.toNat - (intOf (.int .i64 (i : Int))).toNat := by
    rintro _ _ _ rfl rfl rfl
    refine ⟨⟨i + 1, by omega, by go_num, by rw [hrun], by rw [hrun], by rw [hrun]; exact hset, k27⟩, by simp only [intOf]; omega⟩
  have hJ : ∀ (F : (Value → World → Prop) → Prop) (k : Value → World → Prop), (∀ a w, (a = .int .i64 (moved e x.2.1) ∧ w = w7) → k a w) → (∀ k' : Value → World → Prop, (∀ a w, (a = .int .i64 (moved e x.2.1) ∧ w = w7) → k' a w) → F k') → Join F k := fun F k a b => r_join1 _ a b
  by_cases g4 : 0 ≤ e.2.2
  case neg =>
    simp (disch := omega) only [r_ln, r_pick, r_pickT, r_pickF, r_condT, r_condF, r_gdTT, r_gdFF, r_gdTF, r_gdFT, r_gqTT, r_gqFF, r_gqTF, r_gqFT, r_not, r_lss, r_leq, r_gtr, r_geq, r_eql, r_neq, r_add, r_sub, r_min2, r_max2, r_min3, r_max3, r_fa, r_iaS, r_iaA, r_ex2a, r_ex2b, r_ex3a, r_ex3b, r_ex3c, r_nc, r_keepE, Nat.zero_add, Nat.add_zero, Nat.mul_one, Int.toNat_natCast, toNat_sub1, toNat_add1, decide_true, decide_false, Bool.not_true, Bool.not_false, if_true, if_false, Bool.false_eq_true, reduceCtorEq, r_ld c2, g4]
    refine hJ _ _ (fun v' w' ⟨ev, ew⟩ => ?_) fun k' hk' => ?_
    · subst ew
      try simp (disch := omega) only [r_ln, r_pick, r_pickT, r_pickF, r_condT, r_condF, r_gdTT, r_gdFF, r_gdTF, r_gdFT, r_gqTT, r_gqFF, r_gqTF, r_gqFT, r_not, r_lss, r_leq, r_gtr, r_geq, r_eql, r_neq, r_add, r_sub, r_min2, r_max2, r_min3, r_max3, r_fa, r_iaS, r_iaA, r_ex2a, r_ex2b, r_ex3a, r_ex3b, r_ex3c, r_nc, r_keepE, Nat.zero_add, Nat.add_zero, Nat.mul_one, Int.toNat_natCast, toNat_sub1, toNat_add1, decide_true, decide_false, Bool.not_true, Bool.not_false, if_true, if_false, Bool.false_eq_true, reduceCtorEq]
      exact hI _ _ _ ev rfl rfl
    try simp (disch := omega) only [r_ln, r_pick, r_pickT, r_pickF, r_condT, r_condF, r_gdTT, r_gdFF, r_gdTF, r_gdFT, r_gqTT, r_gqFF, r_gqTF, r_gqFT, r_not, r_lss, r_leq, r_gtr, r_geq, r_eql, r_neq, r_add, r_sub, r_min2, r_max2, r_min3, r_max3, r_fa, r_iaS, r_iaA, r_ex2a, r_ex2b, r_ex3a, r_ex3b, r_ex3c, r_nc, r_keepE, Nat.zero_add, Nat.add_zero, Nat.mul_one, Int.toNat_natCast, toNat_sub1, toNat_add1, decide_true, decide_false, Bool.not_true, Bool.not_false, if_true, if_false, Bool.false_eq_true, reduceCtorEq]
    exact hk' _ _ ⟨by rw [moved, if_pos (by omega)], rfl⟩
  have g4' : ¬ e.2.2 < 0 := by omega
  cases g5 : e.2.1 with
  | true =>
    rw [g5] at c1
    simp (disch := omega) only [r_ln, r_pick, r_pickT, r_pickF, r_condT, r_condF, r_gdTT, r_gdFF, r_gdTF, r_gdFT, r_gqTT, r_gqFF, r_gqTF, r_gqFT, r_not, r_lss, r_leq, r_gtr, r_geq, r_eql, r_neq, r_add, r_sub, r_min2, r_max2, r_min3, r_max3, r_fa, r_iaS, r_iaA, r_ex2a, r_ex2b, r_ex3a, r_ex3b, r_ex3c, r_nc, r_keepE, Nat.zero_add, Nat.add_zero, Nat.mul_one, Int.toNat_natCast, toNat_sub1, toNat_add1, decide_true, decide_false, Bool.not_true, Bool.not_false, if_true, if_false, Bool.false_eq_true, reduceCtorEq, r_ld c2, decide_eq_true g4, r_ld c1]
    refine hJ _ _ (fun v' w' ⟨ev, ew⟩ => ?_) fun k' hk' => ?_
    · subst ew
      try simp (disch := omega) only [r_ln, r_pick, r_pickT, r_pickF, r_condT, r_condF, r_gdTT, r_gdFF, r_gdTF, r_gdFT, r_gqTT, r_gqFF, r_gqTF, r_gqFT, r_not, r_lss, r_leq, r_gtr, r_geq, r_eql, r_neq, r_add, r_sub, r_min2, r_max2, r_min3, r_max3, r_fa, r_iaS, r_iaA, r_ex2a, r_ex2b, r_ex3a, r_ex3b, r_ex3c, r_nc, r_keepE, Nat.zero_add, Nat.add_zero, Nat.mul_one, Int.toNat_natCast, toNat_sub1, toNat_add1, decide_true, decide_false, Bool.not_true, Bool.not_false, if_true, if_false, Bool.false_eq_true, reduceCtorEq]
      exact hI _ _ _ ev rfl rfl
    try simp (disch := omega) only [r_ln, r_pick, r_pickT, r_pickF, r_condT, r_condF, r_gdTT, r_gdFF, r_gdTF, r_gdFT, r_gqTT, r_gqFF, r_gqTF, r_gqFT, r_not, r_lss, r_leq, r_gtr, r_geq, r_eql, r_neq, r_add, r_sub, r_min2, r_max2, r_min3, r_max3, r_fa, r_iaS, r_iaA, r_ex2a, r_ex2b, r_ex3a, r_ex3b, r_ex3c, r_nc, r_keepE, Nat.zero_add, Nat.add_zero, Nat.mul_one, Int.toNat_natCast, toNat_sub1, toNat_add1, decide_true, decide_false, Bool.not_true, Bool.not_false, if_true, if_false, Bool.false_eq_true, reduceCtorEq]
    exact hk' _ _ ⟨by rw [moved, if_neg g4', if_pos g5], rfl⟩
  | false =>
    rw [g5] at c1
    simp (disch := omega) only [r_ln, r_pick, r_pickT, r_pickF, r_condT, r_condF, r_gdTT, r_gdFF, r_gdTF, r_gdFT, r_gqTT, r_gqFF, r_gqTF, r_gqFT, r_not, r_lss, r_leq, r_gtr, r_geq, r_eql, r_neq, r_add, r_sub, r_min2, r_max2, r_min3, r_max3, r_fa, r_iaS, r_iaA, r_ex2a, r_ex2b, r_ex3a, r_ex3b, r_ex3c, r_nc, r_keepE, Nat.zero_add, Nat.add_zero, Nat.mul_one, Int.toNat_natCast, toNat_sub1, toNat_add1, decide_true, decide_false, Bool.not_true, Bool.not_false, if_true, if_false, Bool.false_eq_true, reduceCtorEq, r_ld c2, decide_eq_true g4, r_ld c1]
    refine hJ _ _ (fun v' w' ⟨ev, ew⟩ => ?_) fun k' hk' => ?_
    · subst ew
      try simp (disch := omega) only [r_ln, r_pick, r_pickT, r_pickF, r_condT, r_condF, r_gdTT, r_gdFF, r_gdTF, r_gdFT, r_gqTT, r_gqFF, r_gqTF, r_gqFT, r_not, r_lss, r_leq, r_gtr, r_geq, r_eql, r_neq, r_add, r_sub, r_min2, r_max2, r_min3, r_max3, r_fa, r_iaS, r_iaA, r_ex2a, r_ex2b, r_ex3a, r_ex3b, r_ex3c, r_nc, r_keepE, Nat.zero_add, Nat.add_zero, Nat.mul_one, Int.toNat_natCast, toNat_sub1, toNat_add1, decide_true, decide_false, Bool.not_true, Bool.not_false, if_true, if_false, Bool.false_eq_true, reduceCtorEq]
      exact hI _ _ _ ev rfl rfl
    try simp (disch := omega) only [r_ln, r_pick, r_pickT, r_pickF, r_condT, r_condF, r_gdTT, r_gdFF, r_gdTF, r_gdFT, r_gqTT, r_gqFF, r_gqTF, r_gqFT, r_not, r_lss, r_leq, r_gtr, r_geq, r_eql, r_neq, r_add, r_sub, r_min2, r_max2, r_min3, r_max3, r_fa, r_iaS, r_iaA, r_ex2a, r_ex2b, r_ex3a, r_ex3b, r_ex3c, r_nc, r_keepE, Nat.zero_add, Nat.add_zero, Nat.mul_one, Int.toNat_natCast, toNat_sub1, toNat_add1, decide_true, decide_false, Bool.not_true, Bool.not_false, if_true, if_false, Bool.false_eq_true, reduceCtorEq]
    exact hk' _ _ ⟨by rw [moved, if_neg g4', if_neg (by rw [g5]; decide)], rfl⟩

set_option maxRecDepth 100000 in
theorem r42_0 {w2 : World} {b1 s : Nat} {tv vt : Value} {T : List Ent} {tape : List Int} {n : Int} {R : Ending → World → Prop}
    (h1 : w2.heap[b1]? = some (.cells #[.int .i64 s, tv] 51 (0, 0))) (hr : RdE w2 tv T) (hT : TOk s T) (ht : RdInts w2 vt tape) (hn0 : 0 ≤ n ∧ n ≤ 4) (hl : tape.length ≤ 100)
    (hbad : ∀ w', tape.all bitB = false → Kp w2 w' → R (.returned (.tuple #[nilS, .int .i64 0, .int .i64 0, .int .i64 2])) w')
    (hn : ∀ v w', tape.all bitB = true → IntsAt w2.heap.size w' v (runM T (tape, 0, 0) n.toNat).1 → Kp w2 w' → R (.returned (.tuple #[v, .int .i64 (runM T (tape, 0, 0) n.toNat).2.1, .int .i64 (runM T (tape, 0, 0) n.toNat).2.2, .int .i64 0])) w') :
    S42L0 vt (.int .i64 n) (pb b1) R w2 := by
  obtain ⟨aa, ca, rfl, ha1, _⟩ := ht.len
  unfold S42L0
  refine ⟨fun t10 t11 wr => ∃ i : Nat, i ≤ tape.length ∧ t11 = .int .i64 i ∧ (tape.take i).all bitB = true ∧ IntsAt w2.heap.size wr t10 (tape.take i) ∧ Kp w2 wr, fun _ t11 _ => tape.length - (intOf t11).toNat, ⟨0, by omega, rfl, rfl, RecAt.nil, Kp.refl _⟩, ?_⟩
  rintro _ t10 _ wr ⟨i, hi, rfl, hbt, hP, kr⟩
  by_cases hlt : i < tape.length
  case neg =>
    have hlt' : ¬ (i : Int) < (tape.length : Int) := by omega
    rw [List.take_of_length_le (by omega)] at hP hbt
    simp (disch := omega) only [r_ln, r_pick, r_pickT, r_pickF, r_condT, r_condF, r_gdTT, r_gdFF, r_gdTF, r_gdFT, r_gqTT, r_gqFF, r_gqTF, r_gqFT, r_not, r_lss, r_leq, r_gtr, r_geq, r_eql, r_neq, r_add, r_sub, r_min2, r_max2, r_min3, r_max3, r_fa, r_iaS, r_iaA, r_ex2a, r_ex2b, r_ex3a, r_ex3b, r_ex3c, r_nc, r_keepE, Nat.zero_add, Nat.add_zero, Nat.mul_one, Int.toNat_natCast, toNat_sub1, toNat_add1, decide_true, decide_false, Bool.not_true, Bool.not_false, if_true, if_false, Bool.false_eq_true, reduceCtorEq, hlt']
    exact r42_1 h1 hr hT (bits_iff.1 hbt) hn0 hl hP kr fun w' ho kk => hn _ _ hbt ho kk
  have hlt' : (i : Int) < (tape.length : Int) := by omega
  obtain ⟨b, off, cap, ev, hc⟩ := (ht.below kr).at hlt
  cases ev
  rw [getD_lt _ _ _ hlt] at hc
  have bad : bitB tape[i] = false → tape.all bitB = false := fun h => by
    cases hh : tape.all bitB with
    | false => rfl
    | true =>
      have := List.all_eq_true.1 hh _ (List.getElem_mem hlt)
      rw [h] at this
      cases this
  have hi' : (i : Int).toNat = i := by omega
  by_cases g1 : tape[i] < 0
  · simp (disch := omega) only [r_ln, r_pick, r_pickT, r_pickF, r_condT, r_condF, r_gdTT, r_gdFF, r_gdTF, r_gdFT, r_gqTT, r_gqFF, r_gqTF, r_gqFT, r_not, r_lss, r_leq, r_gtr, r_geq, r_eql, r_neq, r_add, r_sub, r_min2, r_max2, r_min3, r_max3, r_fa, r_iaS, r_iaA, r_ex2a, r_ex2b, r_ex3a, r_ex3b, r_ex3c, r_nc, r_keepE, Nat.zero_add, Nat.add_zero, Nat.mul_one, Int.toNat_natCast, toNat_sub1, toNat_add1, decide_true, decide_false, Bool.not_true, Bool.not_false, if_true, if_false, Bool.false_eq_true, reduceCtorEq, decide_eq_true hlt', hi', r_ld hc, decide_eq_true g1]
    exact hbad wr (bad (by rw [bitB, decide_eq_false (by omega)])) kr
  by_cases g2 : 1 < tape[i]
  · simp (disch := omega) only [r_ln, r_pick, r_pickT, r_pickF, r_condT, r_condF, r_gdTT, r_gdFF, r_gdTF, r_gdFT, r_gqTT, r_gqFF, r_gqTF, r_gqFT, r_not, r_lss, r_leq, r_gtr, r_geq, r_eql, r_neq, r_add, r_sub, r_min2, r_max2, r_min3, r_max3, r_fa, r_iaS, r_iaA, r_ex2a, r_ex2b, r_ex3a, r_ex3b, r_ex3c, r_nc, r_keepE, Nat.zero_add, Nat.add_zero, Nat.mul_one, Int.toNat_natCast, toNat_sub1, toNat_add1, decide_true, decide_false, Bool.not_true, Bool.not_false, if_true, if_false, Bool.false_eq_true, reduceCtorEq, decide_eq_true hlt', hi', r_ld hc, g1, decide_eq_true g2]
    exact hbad wr (bad (by rw [bitB, decide_eq_false (by omega)])) kr
  simp (disch := omega) only [r_ln, r_pick, r_pickT, r_pickF, r_condT, r_condF, r_gdTT, r_gdFF, r_gdTF, r_gdFT, r_gqTT, r_gqFF, r_gqTF, r_gqFT, r_not, r_lss, r_leq, r_gtr, r_geq, r_eql, r_neq, r_add, r_sub, r_min2, r_max2, r_min3, r_max3, r_fa, r_iaS, r_iaA, r_ex2a, r_ex2b, r_ex3a, r_ex3b, r_ex3c, r_nc, r_keepE, Nat.zero_add, Nat.add_zero, Nat.mul_one, Int.toNat_natCast, toNat_sub1, toNat_add1, decide_true, decide_false, Bool.not_true, Bool.not_false, if_true, if_false, Bool.false_eq_true, reduceCtorEq, decide_eq_true hlt', hi', r_ld hc, g1, g2]
  refine r_pushRec (x := tape[i]) slt30 iC_len rfl (bs30 _ _ _) (by intro u hu; simp [iC] at hu; rw [hu]; rfl) (by omega) hP (by rw [List.length_take]; omega) kr.size fun v' w' ho hcg _ => ?_
  try simp (disch := omega) only [r_ln, r_pick, r_pickT, r_pickF, r_condT, r_condF, r_gdTT, r_gdFF, r_gdTF, r_gdFT, r_gqTT, r_gqFF, r_gqTF, r_gqFT, r_not, r_lss, r_leq, r_gtr, r_geq, r_eql, r_neq, r_add, r_sub, r_min2, r_max2, r_min3, r_max3, r_fa, r_iaS, r_iaA, r_ex2a, r_ex2b, r_ex3a, r_ex3b, r_ex3c, r_nc, r_keepE, Nat.zero_add, Nat.add_zero, Nat.mul_one, Int.toNat_natCast, toNat_sub1, toNat_add1, decide_true, decide_false, Bool.not_true, Bool.not_false, if_true, if_false, Bool.false_eq_true, reduceCtorEq]
  refine ⟨⟨i + 1, by omega, by go_num, ?_, ?_, Kp.of_chg kr hcg fun k e => (hP.lt e).1⟩, by simp only [intOf]; omega⟩
  · rw [take_succ' _ _ hlt, List.all_append, hbt]
    simp [bitB]
    omega
  · rw [take_succ' _ _ hlt]
    exact ho

set_option maxRecDepth 100000 in
theorem refrun_calls {S n : Int} {tv vt : Value} {T : List Ent} {tape : List Int} (w : World) (hr : RdE w tv T) (hT : T.length ≤ 1000) (ht : RdInts w vt tape) : Calls Try.prog 42 #[macV S tv, vt, .int .i64 n] w fun e w' => Kp w w' ∧ RunPost S T tape n w.heap.size w' e := by
  obtain ⟨ta, tcap, rfl, _⟩ := hr.len
  have ht' := ht
  obtain ⟨aa, ca, rfl, ha1, _⟩ := ht.len
  refine lift42 ?_
  unfold S42
  refine r_box fun b1 w1 e1 s1 h1 k1 => ?_
  have h1' : w1.heap[b1]? = some (.cells #[.int .i64 S, .slice ta T.length tcap] 51 (0, 0)) := h1
  rw [r_ldRow (n := 2) h1' rfl]
  refine r_use fok93 (valid2_calls (T := T) w1 (hr.kp k1) hT) rfl ?_
  rintro _ w2 ⟨rfl, k2⟩
  refine ⟨_, rfl, ?_⟩
  have k02 := Kp.trans k1 k2
  have h12 := block_below h1' k2
  have bad : ∀ w', Kp w w' → runOk S T tape n = false → Kp w w' ∧ RunPost S T tape n w.heap.size w' (.returned (.tuple #[nilS, .int .i64 0, .int .i64 0, .int .i64 2])) := fun w' k h => ⟨k, .inl ⟨h, rfl⟩⟩
  have no : ∀ {p : Prop}, (runOk S T tape n = true → p → False) → p → runOk S T tape n = false := fun h hp => by
    cases hh : runOk S T tape n with
    | false => rfl
    | true => exact absurd hp (h hh)
  cases hm : macB S T with
  | false =>
    simp (disch := omega) only [r_ln, r_pick, r_pickT, r_pickF, r_condT, r_condF, r_gdTT, r_gdFF, r_gdTF, r_gdFT, r_gqTT, r_gqFF, r_gqTF, r_gqFT, r_not, r_lss, r_leq, r_gtr, r_geq, r_eql, r_neq, r_add, r_sub, r_min2, r_max2, r_min3, r_max3, r_fa, r_iaS, r_iaA, r_ex2a, r_ex2b, r_ex3a, r_ex3b, r_ex3c, r_nc, r_keepE, Nat.zero_add, Nat.add_zero, Nat.mul_one, Int.toNat_natCast, toNat_sub1, toNat_add1, decide_true, decide_false, Bool.not_true, Bool.not_false, if_true, if_false, Bool.false_eq_true, reduceCtorEq]
    exact bad _ k02 (no (fun h e => by have := (runOk_iff.1 h).1; rw [hm] at this; cases this) hm)
  | true =>
  simp (disch := omega) only [r_ln, r_pick, r_pickT, r_pickF, r_condT, r_condF, r_gdTT, r_gdFF, r_gdTF, r_gdFT, r_gqTT, r_gqFF, r_gqTF, r_gqFT, r_not, r_lss, r_leq, r_gtr, r_geq, r_eql, r_neq, r_add, r_sub, r_min2, r_max2, r_min3, r_max3, r_fa, r_iaS, r_iaA, r_ex2a, r_ex2b, r_ex3a, r_ex3b, r_ex3c, r_nc, r_keepE, Nat.zero_add, Nat.add_zero, Nat.mul_one, Int.toNat_natCast, toNat_sub1, toNat_add1, decide_true, decide_false, Bool.not_true, Bool.not_false, if_true, if_false, Bool.false_eq_true, reduceCtorEq]
  refine r_use fok68 (size_calls tape.length w2) rfl ?_
  rintro _ _ ⟨rfl, rfl⟩
  refine ⟨_, rfl, ?_⟩
  cases hsd : sideB tape.length with
  | false =>
    simp (disch := omega) only [r_ln, r_pick, r_pickT, r_pickF, r_condT, r_condF, r_gdTT, r_gdFF, r_gdTF, r_gdFT, r_gqTT, r_gqFF, r_gqTF, r_gqFT, r_not, r_lss, r_leq, r_gtr, r_geq, r_eql, r_neq, r_add, r_sub, r_min2, r_max2, r_min3, r_max3, r_fa, r_iaS, r_iaA, r_ex2a, r_ex2b, r_ex3a, r_ex3b, r_ex3c, r_nc, r_keepE, Nat.zero_add, Nat.add_zero, Nat.mul_one, Int.toNat_natCast, toNat_sub1, toNat_add1, decide_true, decide_false, Bool.not_true, Bool.not_false, if_true, if_false, Bool.false_eq_true, reduceCtorEq]
    exact bad _ k02 (no (fun h e => by have := (runOk_iff.1 h).2.1; rw [hsd] at this; cases this) hsd)
  | true =>
  have hsd' : 1 ≤ tape.length ∧ tape.length ≤ 4 := by
    simp only [sideB, decide_eq_true_eq] at hsd
    omega
  by_cases g1 : n < 0
  · simp (disch := omega) only [r_ln, r_pick, r_pickT, r_pickF, r_condT, r_condF, r_gdTT, r_gdFF, r_gdTF, r_gdFT, r_gqTT, r_gqFF, r_gqTF, r_gqFT, r_not, r_lss, r_leq, r_gtr, r_geq, r_eql, r_neq, r_add, r_sub, r_min2, r_max2, r_min3, r_max3, r_fa, r_iaS, r_iaA, r_ex2a, r_ex2b, r_ex3a, r_ex3b, r_ex3c, r_nc, r_keepE, Nat.zero_add, Nat.add_zero, Nat.mul_one, Int.toNat_natCast, toNat_sub1, toNat_add1, decide_true, decide_false, Bool.not_true, Bool.not_false, if_true, if_false, Bool.false_eq_true, reduceCtorEq, decide_eq_true g1]
    exact bad _ k02 (no (fun h e => by have := (runOk_iff.1 h).2.2.2; omega) g1)
  by_cases g2 : 4 < n
  · simp (disch := omega) only [r_ln, r_pick, r_pickT, r_pickF, r_condT, r_condF, r_gdTT, r_gdFF, r_gdTF, r_gdFT, r_gqTT, r_gqFF, r_gqTF, r_gqFT, r_not, r_lss, r_leq, r_gtr, r_geq, r_eql, r_neq, r_add, r_sub, r_min2, r_max2, r_min3, r_max3, r_fa, r_iaS, r_iaA, r_ex2a, r_ex2b, r_ex3a, r_ex3b, r_ex3c, r_nc, r_keepE, Nat.zero_add, Nat.add_zero, Nat.mul_one, Int.toNat_natCast, toNat_sub1, toNat_add1, decide_true, decide_false, Bool.not_true, Bool.not_false, if_true, if_false, Bool.false_eq_true, reduceCtorEq, g1, decide_eq_true g2]
    exact bad _ k02 (no (fun h e => by have := (runOk_iff.1 h).2.2.2; omega) g2)
  simp (disch := omega) only [r_ln, r_pick, r_pickT, r_pickF, r_condT, r_condF, r_gdTT, r_gdFF, r_gdTF, r_gdFT, r_gqTT, r_gqFF, r_gqTF, r_gqFT, r_not, r_lss, r_leq, r_gtr, r_geq, r_eql, r_neq, r_add, r_sub, r_min2, r_max2, r_min3, r_max3, r_fa, r_iaS, r_iaA, r_ex2a, r_ex2b, r_ex3a, r_ex3b, r_ex3c, r_nc, r_keepE, Nat.zero_add, Nat.add_zero, Nat.mul_one, Int.toNat_natCast, toNat_sub1, toNat_add1, decide_true, decide_false, Bool.not_true, Bool.not_false, if_true, if_false, Bool.false_eq_true, reduceCtorEq, g1, g2]
  obtain ⟨s, rfl, hTO⟩ := tOk_of hm
  refine r42_0 h12 (hr.kp k02) hTO (ht'.below k02) (by omega) (by omega) (fun w' hb kk => ?_) fun v' w' hb ho' kk => ?_
  · exact bad _ (Kp.trans k02 kk) (no (fun h e => by have := (runOk_iff.1 h).2.2.1; rw [hb] at this; cases this) hb)
  · exact ⟨Kp.trans k02 kk, .inr ⟨runOk_iff.2 ⟨hm, hsd, hb, by omega, by omega⟩, v', rfl, ho'.down k02.size⟩⟩

end Go.Proofs.Ytgalbokmgffhkaa
