/- Contract: Run of the program. -/
import Derived.Test.YtgalbokmgffhkaaD11
set_option linter.all false
namespace Go.Proofs.Ytgalbokmgffhkaa
open Go.Lf Go.RowKit Go.Wg

set_option maxRecDepth 100000 in
theorem r41_0 {w2 w : World} {b1 s : Nat} {tv v : Value} {T : List Ent} {tape : List Int} {n : Int} {R : Ending → World → Prop}
    (h1 : w2.heap[b1]? = some (.cells #[.int .i64 s, tv] 51 (0, 0))) (hr : RdE w2 tv T) (hT : TOk s T) (hb : ∀ c ∈ tape, 0 ≤ c ∧ c ≤ 1) (hn0 : 0 ≤ n ∧ n ≤ 4) (hl : tape.length ≤ 100) (hP : IntsAt w2.heap.size w v tape) (k : Kp w2 w)
    (hn : ∀ w', IntsAt w2.heap.size w' v (runM T (tape, 0, 0) n.toNat).1 → Kp w2 w' → R (.returned (.tuple #[v, .int .i64 (runM T (tape, 0, 0) n.toNat).2.1, .int .i64 (runM T (tape, 0, 0) n.toNat).2.2, .int .i64 0])) w') :
    S41L0 (.int .i64 n) (pb b1) v R w := by
  unfold S41L0
  have hok := MOk.run hT (mOk_start hT.s1 hb)
  refine ⟨fun t12 t13 t40 wr => ∃ i : Nat, (i : Int) ≤ n ∧ t40 = .int .i64 i ∧ t12 = .int .i64 (runM T (tape, 0, 0) i).2.1 ∧ t13 = .int .i64 (runM T (tape, 0, 0) i).2.2 ∧ IntsAt w2.heap.size wr v (runM T (tape, 0, 0) i).1 ∧ Kp w2 wr, fun _ _ t40 _ => n.toNat - (intOf t40).toNat, ⟨0, by omega, rfl, rfl, rfl, hP, k⟩, ?_⟩
  rintro _ _ _ _ wr ⟨i, hi, rfl, rfl, rfl, hPi, kr⟩
  have hx := hok i
  have hs2 := hT.s2
  have hq := hx.q
  have ha := hx.a
  have hlen := hx.len
  have hrun : runM T (tape, 0, 0) (i + 1) = stp T (runM T (tape, 0, 0) i) := rfl
  generalize hX : runM T (tape, 0, 0) i = x at *
  by_cases hlt : (i : Int) < n
  case neg =>
    have ei : n.toNat = i := by omega
    rw [ei, hX] at hn
    simp (disch := omega) only [r_ln, r_pick, r_pickT, r_pickF, r_condT, r_condF, r_gdTT, r_gdFF, r_gdTF, r_gdFT, r_gqTT, r_gqFF, r_gqTF, r_gqFT, r_not, r_lss, r_leq, r_gtr, r_geq, r_eql, r_neq, r_add, r_sub, r_min2, r_max2, r_min3, r_max3, r_fa, r_iaS, r_iaA, r_ex2a, r_ex2b, r_ex3a, r_ex3b, r_ex3c, r_nc, r_keepE, Nat.zero_add, Nat.add_zero, Nat.mul_one, Int.toNat_natCast, toNat_sub1, toNat_add1, decide_true, decide_false, Bool.not_true, Bool.not_false, if_true, if_false, Bool.false_eq_true, reduceCtorEq, hlt]
    exact hn wr hPi kr
  by_cases hg : goes x
  case neg =>
    have est : runM T (tape, 0, 0) n.toNat = x := by rw [runM_stop (i := i) (by rw [hX]; exact hg) _ (by omega), hX]
    rw [est] at hn
    obtain ⟨a38, c38, e38, _⟩ := hPi.len
    subst e38
    by_cases g1 : x.2.2 < 0
    · simp (disch := omega) only [r_ln, r_pick, r_pickT, r_pickF, r_condT, r_condF, r_gdTT, r_gdFF, r_gdTF, r_gdFT, r_gqTT, r_gqFF, r_gqTF, r_gqFT, r_not, r_lss, r_leq, r_gtr, r_geq, r_eql, r_neq, r_add, r_sub, r_min2, r_max2, r_min3, r_max3, r_fa, r_iaS, r_iaA, r_ex2a, r_ex2b, r_ex3a, r_ex3b, r_ex3c, r_nc, r_keepE, Nat.zero_add, Nat.add_zero, Nat.mul_one, Int.toNat_natCast, toNat_sub1, toNat_add1, decide_true, decide_false, Bool.not_true, Bool.not_false, if_true, if_false, Bool.false_eq_true, reduceCtorEq, decide_eq_true hlt, decide_eq_true g1]
      exact hn wr hPi kr
    by_cases g2 : x.2.1 < 0
    · simp (disch := omega) only [r_ln, r_pick, r_pickT, r_pickF, r_condT, r_condF, r_gdTT, r_gdFF, r_gdTF, r_gdFT, r_gqTT, r_gqFF, r_gqTF, r_gqFT, r_not, r_lss, r_leq, r_gtr, r_geq, r_eql, r_neq, r_add, r_sub, r_min2, r_max2, r_min3, r_max3, r_fa, r_iaS, r_iaA, r_ex2a, r_ex2b, r_ex3a, r_ex3b, r_ex3c, r_nc, r_keepE, Nat.zero_add, Nat.add_zero, Nat.mul_one, Int.toNat_natCast, toNat_sub1, toNat_add1, decide_true, decide_false, Bool.not_true, Bool.not_false, if_true, if_false, Bool.false_eq_true, reduceCtorEq, decide_eq_true hlt, g1, decide_eq_true g2]
      exact hn wr hPi kr
    have g3 : (x.1.length : Int) ≤ x.2.1 := by
      by_cases h : (x.1.length : Int) ≤ x.2.1
      · exact h
      · exact absurd ⟨by omega, by omega, by omega⟩ hg
    simp (disch := omega) only [r_ln, r_pick, r_pickT, r_pickF, r_condT, r_condF, r_gdTT, r_gdFF, r_gdTF, r_gdFT, r_gqTT, r_gqFF, r_gqTF, r_gqFT, r_not, r_lss, r_leq, r_gtr, r_geq, r_eql, r_neq, r_add, r_sub, r_min2, r_max2, r_min3, r_max3, r_fa, r_iaS, r_iaA, r_ex2a, r_ex2b, r_ex3a, r_ex3b, r_ex3c, r_nc, r_keepE, Nat.zero_add, Nat.add_zero, Nat.mul_one, Int.toNat_natCast, toNat_sub1, toNat_add1, decide_true, decide_false, Bool.not_true, Bool.not_false, if_true, if_false, Bool.false_eq_true, reduceCtorEq, decide_eq_true hlt, g1, g2, decide_eq_true g3]
    exact hn wr hPi kr
  obtain ⟨o, ho1, ho2, holt, hget, hmem⟩ := entAt_get hT hx hg
  have hE := hT.ent _ hmem
  generalize hEe : entAt T x = e at *
  obtain ⟨g1, g2, g3⟩ := hg
  have hq' : ¬ x.2.2 < 0 := by omega
  have ha' : ¬ x.2.1 < 0 := by omega
  have hl' : ¬ (x.1.length : Int) ≤ x.2.1 := by omega
  have halt : x.2.1.toNat < x.1.length := by omega
  have hxa : x.1[x.2.1.toNat]? = some (x.1[x.2.1.toNat]) := List.getElem?_eq_getElem halt
  have hxa' : x.1[x.2.1.toNat] = (o : Int) := by rw [← ho2, getD_lt _ _ _ halt]
  -- the first loads
  obtain ⟨g, cap, ev, hgb, _, _, _⟩ := hPi.set (u := .int .i64 e.1) (p' := e.1) iC_len hxa (by omega : 0 < 1) rfl
  subst ev
  simp (disch := omega) only [r_ln, r_pick, r_pickT, r_pickF, r_condT, r_condF, r_gdTT, r_gdFF, r_gdTF, r_gdFT, r_gqTT, r_gqFF, r_gqTF, r_gqFT, r_not, r_lss, r_leq, r_gtr, r_geq, r_eql, r_neq, r_add, r_sub, r_min2, r_max2, r_min3, r_max3, r_fa, r_iaS, r_iaA, r_ex2a, r_ex2b, r_ex3a, r_ex3b, r_ex3c, r_nc, r_keepE, Nat.zero_add, Nat.add_zero, Nat.mul_one, Int.toNat_natCast, toNat_sub1, toNat_add1, decide_true, decide_false, Bool.not_true, Bool.not_false, if_true, if_false, Bool.false_eq_true, reduceCtorEq, decide_eq_true hlt, hq', ha', hl']
  refine r_drew fun w3 k3 _ => ?_
  have k23 := Kp.trans kr k3
  have hP3 := hPi.kp k3
  have cT : w3.cell? ⟨b1, 1, none⟩ = some tv := by rw [cell_row (block_below h1 k23)]; rfl
  have hP3r : Rd 1 iC w3 (.slice (some ⟨g, 0, none⟩) x.1.length cap) x.1 := hP3.rd iC_len
  obtain ⟨_, _, _, eq1, _, hcr⟩ := hP3r.at hxa
  cases eq1
  have cO : w3.cell? ⟨g, x.2.1.toNat, none⟩ = some (.int .i64 o) := by
    have := hcr 0 _ rfl
    simpa [iC, hxa'] using this
  obtain ⟨bt, off, capT, etv, _, hld⟩ := RdE.ent (hr.kp k23) hget
  subst etv
  have e2 : (2 * x.2.2 + (o : Int)).toNat = 2 * x.2.2.toNat + o := by omega
  simp (disch := omega) only [r_ln, r_pick, r_pickT, r_pickF, r_condT, r_condF, r_gdTT, r_gdFF, r_gdTF, r_gdFT, r_gqTT, r_gqFF, r_gqTF, r_gqFT, r_not, r_lss, r_leq, r_gtr, r_geq, r_eql, r_neq, r_add, r_sub, r_min2, r_max2, r_min3, r_max3, r_fa, r_iaS, r_iaA, r_ex2a, r_ex2b, r_ex3a, r_ex3b, r_ex3c, r_nc, r_keepE, Nat.zero_add, Nat.add_zero, Nat.mul_one, Int.toNat_natCast, toNat_sub1, toNat_add1, decide_true, decide_false, Bool.not_true, Bool.not_false, if_true, if_false, Bool.false_eq_true, reduceCtorEq, r_ld cT, r_mul, r_ld cO, e2, hld]
  refine r_box fun b4 w4 e4 s4 h4 k4 => ⟨k4, ?_⟩
  refine r_stAll (n := 3) (ty := 102) (by kernel_rfl) rfl (by intro u hu; simp [Value.cells] at hu; rcases hu with rfl | rfl | rfl <;> rfl) h4 rfl fun w5 d5 t5 h5 => ?_
  have k35 : Kp w3 w5 := Kp.of_chg k4 d5 fun i e => by omega
  refine r_drew fun w6 k6 _ => ?_
  have k36 := Kp.trans k35 k6
  have k26 := Kp.trans k23 k36
  have h6 := block_below h5 k6
  have hP6 := hP3.kp k36
  have hgl := (hP3.lt (k := g) rfl).2
  have hgb : ¬ g = b4 := by omega
  obtain ⟨g', cap', ev', hgb', ⟨u0, cu⟩, hfr, hset⟩ := hP6.set (u := .int .i64 e.1) (p' := e.1) iC_len hxa (by omega : 0 < 1) rfl
  cases ev'
  simp only [Nat.mul_one, Nat.add_zero] at cu hfr hset
  have c0 : w6.cell? ⟨b4, 0, none⟩ = some (.int .i64 e.1) := by rw [cell_row h6]; rfl
  have c2 : w6.cell? ⟨b4, 2, none⟩ = some (.int .i64 e.2.2) := by rw [cell_row h6]; rfl
  refine ⟨fun k => k = g, ?_⟩
  have nX : ¬ b4 = g := fun e => hgb e.symm
  simp (disch := omega) only [r_ln, r_pick, r_pickT, r_pickF, r_condT, r_condF, r_gdTT, r_gdFF, r_gdTF, r_gdFT, r_gqTT, r_gqFF, r_gqTF, r_gqFT, r_not, r_lss, r_leq, r_gtr, r_geq, r_eql, r_neq, r_add, r_sub, r_min2, r_max2, r_min3, r_max3, r_fa, r_iaS, r_iaA, r_ex2a, r_ex2b, r_ex3a, r_ex3b, r_ex3c, r_nc, r_keepE, Nat.zero_add, Nat.add_zero, Nat.mul_one, Int.toNat_natCast, toNat_sub1, toNat_add1, decide_true, decide_false, Bool.not_true, Bool.not_false, if_true, if_false, Bool.false_eq_true, reduceCtorEq, r_tx, r_txl (X := fun k => k = g) c0 nX, r_txl (X := fun k => k = g) c2 nX]
  rw [st3 cu hfr, r_keepWE]
  have hc : Chg (fun k => k = g) w6 (w6.setCell ⟨g, x.2.1.toNat, none⟩ (.int .i64 e.1)) := Chg.setCell _ _ rfl
  refine ⟨⟨hc.os, hc.tape, hc.output, hc.size, fun i hi hn => hc.block i hi hn⟩, ?_⟩
  have k27 : Kp w2 (w6.setCell ⟨g, x.2.1.toNat, none⟩ (.int .i64 e.1)) := Kp.of_chg k26 hc fun i e => by omega
  have h7 := hc.at h6 (fun e => hgb e.symm)
  generalize hw7 : w6.setCell ⟨g, x.2.1.toNat, none⟩ (.int .i64 e.1) = w7 at *
  have c1 : w7.cell? ⟨b4, 1, none⟩ = some (.bool e.2.1) := by rw [cell_row h7]; rfl
  have hstp : stp T x = (x.1.set x.2.1.toNat e.1, moved e x.2.1, e.2.2) := by rw [stp, if_pos ⟨g1, g2, g3⟩, hEe]
  rw [hstp] at hrun
  try simp (disch := omega) only [r_ln, r_pick, r_pickT, r_pickF, r_condT, r_condF, r_gdTT, r_gdFF, r_gdTF, r_gdFT, r_gqTT, r_gqFF, r_gqTF, r_gqFT, r_not, r_lss, r_leq, r_gtr, r_geq, r_eql, r_neq, r_add, r_sub, r_min2, r_max2, r_min3, r_max3, r_fa, r_iaS, r_iaA, r_ex2a, r_ex2b, r_ex3a, r_ex3b, r_ex3c, r_nc, r_keepE, Nat.zero_add, Nat.add_zero, Nat.mul_one, Int.toNat_natCast, toNat_sub1, toNat_add1, decide_true, decide_false, Bool.not_true, Bool.not_false, if_true, if_false, Bool.false_eq_true, reduceCtorEq, r_tx]
  refine r_join1 (fun v' w' => v' = .int .i64 (moved e x.2.1) ∧ w' = w7) (fun v' w' ⟨ev, ew⟩ => ?_) fun k' hk' => ?_
  · subst ev
    subst ew
    try simp (disch := omega) only [r_ln, r_pick, r_pickT, r_pickF, r_condT, r_condF, r_gdTT, r_gdFF, r_gdTF, r_gdFT, r_gqTT, r_gqFF, r_gqTF, r_gqFT, r_not, r_lss, r_leq, r_gtr, r_geq, r_eql, r_neq, r_add, r_sub, r_min2, r_max2, r_min3, r_max3, r_fa, r_iaS, r_iaA, r_ex2a, r_ex2b, r_ex3a, r_ex3b, r_ex3c, r_nc, r_keepE, Nat.zero_add, Nat.add_zero, Nat.mul_one, Int.toNat_natCast, toNat_sub1, toNat_add1, decide_true, decide_false, Bool.not_true, Bool.not_false, if_true, if_false, Bool.false_eq_true, reduceCtorEq]
    refine ⟨⟨i + 1, by omega, by go_num, by rw [hrun], by rw [hrun], by rw [hrun]; exact hset, k27⟩, by simp only [intOf]; omega⟩
  by_cases g4 : e.2.2 < 0
  · simp (disch := omega) only [r_ln, r_pick, r_pickT, r_pickF, r_condT, r_condF, r_gdTT, r_gdFF, r_gdTF, r_gdFT, r_gqTT, r_gqFF, r_gqTF, r_gqFT, r_not, r_lss, r_leq, r_gtr, r_geq, r_eql, r_neq, r_add, r_sub, r_min2, r_max2, r_min3, r_max3, r_fa, r_iaS, r_iaA, r_ex2a, r_ex2b, r_ex3a, r_ex3b, r_ex3c, r_nc, r_keepE, Nat.zero_add, Nat.add_zero, Nat.mul_one, Int.toNat_natCast, toNat_sub1, toNat_add1, decide_true, decide_false, Bool.not_true, Bool.not_false, if_true, if_false, Bool.false_eq_true, reduceCtorEq, decide_eq_true g4]
    exact hk' _ _ ⟨by rw [moved, if_pos g4], rfl⟩
  cases g5 : e.2.1 with
  | true =>
    rw [g5] at c1
    simp (disch := omega) only [r_ln, r_pick, r_pickT, r_pickF, r_condT, r_condF, r_gdTT, r_gdFF, r_gdTF, r_gdFT, r_gqTT, r_gqFF, r_gqTF, r_gqFT, r_not, r_lss, r_leq, r_gtr, r_geq, r_eql, r_neq, r_add, r_sub, r_min2, r_max2, r_min3, r_max3, r_fa, r_iaS, r_iaA, r_ex2a, r_ex2b, r_ex3a, r_ex3b, r_ex3c, r_nc, r_keepE, Nat.zero_add, Nat.add_zero, Nat.mul_one, Int.toNat_natCast, toNat_sub1, toNat_add1, decide_true, decide_false, Bool.not_true, Bool.not_false, if_true, if_false, Bool.false_eq_true, reduceCtorEq, g4, r_ld c1]
    exact hk' _ _ ⟨by rw [moved, if_neg g4, if_pos g5], rfl⟩
  | false =>
    rw [g5] at c1
    simp (disch := omega) only [r_ln, r_pick, r_pickT, r_pickF, r_condT, r_condF, r_gdTT, r_gdFF, r_gdTF, r_gdFT, r_gqTT, r_gqFF, r_gqTF, r_gqFT, r_not, r_lss, r_leq, r_gtr, r_geq, r_eql, r_neq, r_add, r_sub, r_min2, r_max2, r_min3, r_max3, r_fa, r_iaS, r_iaA, r_ex2a, r_ex2b, r_ex3a, r_ex3b, r_ex3c, r_nc, r_keepE, Nat.zero_add, Nat.add_zero, Nat.mul_one, Int.toNat_natCast, toNat_sub1, toNat_add1, decide_true, decide_false, Bool.not_true, Bool.not_false, if_true, if_false, Bool.false_eq_true, reduceCtorEq, g4, r_ld c1]
    exact hk' _ _ ⟨by rw [moved, if_neg g4, if_neg (by rw [g5]; decide)], rfl⟩

theorem badbit_call (x : Int) (w : World) (K : Value → World → Prop) (h : K (.bool (!bitB x)) w) : callW Try.prog (.func (.func 94) #[] #[]) [.int .i64 x] w K := by
  have hc : Calls Try.prog 94 #[.int .i64 x] w fun r w' => r = .returned (.bool (!bitB x)) ∧ w' = w := by
    refine lift94 ?_
    unfold S94
    by_cases h0 : x = 0
    · simp (disch := omega) only [r_ln, r_pick, r_pickT, r_pickF, r_condT, r_condF, r_gdTT, r_gdFF, r_gdTF, r_gdFT, r_gqTT, r_gqFF, r_gqTF, r_gqFT, r_not, r_lss, r_leq, r_gtr, r_geq, r_eql, r_neq, r_add, r_sub, r_min2, r_max2, r_min3, r_max3, r_fa, r_iaS, r_iaA, r_ex2a, r_ex2b, r_ex3a, r_ex3b, r_ex3c, r_nc, r_keepE, Nat.zero_add, Nat.add_zero, Nat.mul_one, Int.toNat_natCast, toNat_sub1, toNat_add1, decide_true, decide_false, Bool.not_true, Bool.not_false, if_true, if_false, Bool.false_eq_true, reduceCtorEq, decide_eq_true h0]
      exact ⟨ret_bool (by simp [bitB, h0]), by first | rfl | trivial⟩
    by_cases h1 : x = 1
    · simp (disch := omega) only [r_ln, r_pick, r_pickT, r_pickF, r_condT, r_condF, r_gdTT, r_gdFF, r_gdTF, r_gdFT, r_gqTT, r_gqFF, r_gqTF, r_gqFT, r_not, r_lss, r_leq, r_gtr, r_geq, r_eql, r_neq, r_add, r_sub, r_min2, r_max2, r_min3, r_max3, r_fa, r_iaS, r_iaA, r_ex2a, r_ex2b, r_ex3a, r_ex3b, r_ex3c, r_nc, r_keepE, Nat.zero_add, Nat.add_zero, Nat.mul_one, Int.toNat_natCast, toNat_sub1, toNat_add1, decide_true, decide_false, Bool.not_true, Bool.not_false, if_true, if_false, Bool.false_eq_true, reduceCtorEq, h0, decide_eq_true h1]
      exact ⟨ret_bool (by simp [bitB, h1]), by first | rfl | trivial⟩
    simp (disch := omega) only [r_ln, r_pick, r_pickT, r_pickF, r_condT, r_condF, r_gdTT, r_gdFF, r_gdTF, r_gdFT, r_gqTT, r_gqFF, r_gqTF, r_gqFT, r_not, r_lss, r_leq, r_gtr, r_geq, r_eql, r_neq, r_add, r_sub, r_min2, r_max2, r_min3, r_max3, r_fa, r_iaS, r_iaA, r_ex2a, r_ex2b, r_ex3a, r_ex3b, r_ex3c, r_nc, r_keepE, Nat.zero_add, Nat.add_zero, Nat.mul_one, Int.toNat_natCast, toNat_sub1, toNat_add1, decide_true, decide_false, Bool.not_true, Bool.not_false, if_true, if_false, Bool.false_eq_true, reduceCtorEq, h0, h1]
    exact ⟨ret_bool (by rw [bitB, decide_eq_false (by omega)]; rfl), by first | rfl | trivial⟩
  refine r_use fok94 hc rfl ?_
  rintro _ w2 ⟨rfl, rfl⟩
  exact ⟨_, rfl, h⟩

theorem any_bit (l : List Int) : (l.any fun x => !bitB x) = !(l.all bitB) := by
  induction l with
  | nil => rfl
  | cons x T ih => simp [ih]

set_option maxRecDepth 100000 in
theorem run_calls {S n : Int} {tv vt : Value} {T : List Ent} {tape : List Int} (w : World) (hr : RdE w tv T) (hT : T.length ≤ 1000) (ht : RdInts w vt tape) : Calls Try.prog 41 #[macV S tv, vt, .int .i64 n] w fun e w' => Kp w w' ∧ RunPost S T tape n w.heap.size w' e := by
  obtain ⟨ta, tcap, rfl, _⟩ := hr.len
  obtain ⟨aa, ca, rfl, ha1, _⟩ := ht.len
  refine lift41 ?_
  unfold S41
  refine r_box fun b1 w1 e1 s1 h1 k1 => ?_
  have h1' : w1.heap[b1]? = some (.cells #[.int .i64 S, .slice ta T.length tcap] 51 (0, 0)) := h1
  rw [r_ldRow (n := 2) h1' rfl]
  refine r_use fok89 (machine_calls (T := T) w1 (hr.kp k1) hT) rfl ?_
  rintro _ w2 ⟨rfl, k2⟩
  refine ⟨_, rfl, ?_⟩
  have k02 := Kp.trans k1 k2
  have h12 := block_below h1' k2
  have bad : ∀ w', Kp w w' → runOk S T tape n = false → Kp w w' ∧ RunPost S T tape n w.heap.size w' (.returned (.tuple #[nilS, .int .i64 0, .int .i64 0, .int .i64 2])) := fun w' k h => ⟨k, .inl ⟨h, rfl⟩⟩
  have no : ∀ {p : Prop}, (runOk S T tape n = true → p → False) → p → runOk S T tape n = false := fun h hp => by
    cases hh : runOk S T tape n with
    | false => rfl
    | true => exact absurd hp (h hh)
  cases hm : macB S T with
  | false =>
    simp (disch := omega) only [r_ln, r_pick, r_pickT, r_pickF, r_condT, r_condF, r_gdTT, r_gdFF, r_gdTF, r_gdFT, r_gqTT, r_gqFF, r_gqTF, r_gqFT, r_not, r_lss, r_leq, r_gtr, r_geq, r_eql, r_neq, r_add, r_sub, r_min2, r_max2, r_min3, r_max3, r_fa, r_iaS, r_iaA, r_ex2a, r_ex2b, r_ex3a, r_ex3b, r_ex3c, r_nc, r_keepE, Nat.zero_add, Nat.add_zero, Nat.mul_one, Int.toNat_natCast, toNat_sub1, toNat_add1, decide_true, decide_false, Bool.not_true, Bool.not_false, if_true, if_false, Bool.false_eq_true, reduceCtorEq]
    exact bad _ k02 (no (fun h e => by have := (runOk_iff.1 h).1; rw [hm] at this; cases this) hm)
  | true =>
  simp (disch := omega) only [r_ln, r_pick, r_pickT, r_pickF, r_condT, r_condF, r_gdTT, r_gdFF, r_gdTF, r_gdFT, r_gqTT, r_gqFF, r_gqTF, r_gqFT, r_not, r_lss, r_leq, r_gtr, r_geq, r_eql, r_neq, r_add, r_sub, r_min2, r_max2, r_min3, r_max3, r_fa, r_iaS, r_iaA, r_ex2a, r_ex2b, r_ex3a, r_ex3b, r_ex3c, r_nc, r_keepE, Nat.zero_add, Nat.add_zero, Nat.mul_one, Int.toNat_natCast, toNat_sub1, toNat_add1, decide_true, decide_false, Bool.not_true, Bool.not_false, if_true, if_false, Bool.false_eq_true, reduceCtorEq]
  refine r_use fok66 (side_calls tape.length w2) rfl ?_
  rintro _ _ ⟨rfl, rfl⟩
  refine ⟨_, rfl, ?_⟩
  cases hsd : sideB tape.length with
  | false =>
    simp (disch := omega) only [r_ln, r_pick, r_pickT, r_pickF, r_condT, r_condF, r_gdTT, r_gdFF, r_gdTF, r_gdFT, r_gqTT, r_gqFF, r_gqTF, r_gqFT, r_not, r_lss, r_leq, r_gtr, r_geq, r_eql, r_neq, r_add, r_sub, r_min2, r_max2, r_min3, r_max3, r_fa, r_iaS, r_iaA, r_ex2a, r_ex2b, r_ex3a, r_ex3b, r_ex3c, r_nc, r_keepE, Nat.zero_add, Nat.add_zero, Nat.mul_one, Int.toNat_natCast, toNat_sub1, toNat_add1, decide_true, decide_false, Bool.not_true, Bool.not_false, if_true, if_false, Bool.false_eq_true, reduceCtorEq]
    exact bad _ k02 (no (fun h e => by have := (runOk_iff.1 h).2.1; rw [hsd] at this; cases this) hsd)
  | true =>
  have hsd' : 1 ≤ tape.length ∧ tape.length ≤ 4 := by
    simp only [sideB, decide_eq_true_eq] at hsd
    omega
  simp (disch := omega) only [r_ln, r_pick, r_pickT, r_pickF, r_condT, r_condF, r_gdTT, r_gdFF, r_gdTF, r_gdFT, r_gqTT, r_gqFF, r_gqTF, r_gqFT, r_not, r_lss, r_leq, r_gtr, r_geq, r_eql, r_neq, r_add, r_sub, r_min2, r_max2, r_min3, r_max3, r_fa, r_iaS, r_iaA, r_ex2a, r_ex2b, r_ex3a, r_ex3b, r_ex3c, r_nc, r_keepE, Nat.zero_add, Nat.add_zero, Nat.mul_one, Int.toNat_natCast, toNat_sub1, toNat_add1, decide_true, decide_false, Bool.not_true, Bool.not_false, if_true, if_false, Bool.false_eq_true, reduceCtorEq]
  refine r_use fok54 (containsF_calls (fun x => !bitB x) w2 (ht.below k02) fun x _ w' K hk hK => badbit_call x w' K (hK w' (Kp.refl _))) rfl ?_
  rintro _ w3 ⟨rfl, k3⟩
  refine ⟨_, rfl, ?_⟩
  have k03 := Kp.trans k02 k3
  have h13 := block_below h12 k3
  rw [any_bit]
  cases hbt : tape.all bitB with
  | false =>
    simp (disch := omega) only [r_ln, r_pick, r_pickT, r_pickF, r_condT, r_condF, r_gdTT, r_gdFF, r_gdTF, r_gdFT, r_gqTT, r_gqFF, r_gqTF, r_gqFT, r_not, r_lss, r_leq, r_gtr, r_geq, r_eql, r_neq, r_add, r_sub, r_min2, r_max2, r_min3, r_max3, r_fa, r_iaS, r_iaA, r_ex2a, r_ex2b, r_ex3a, r_ex3b, r_ex3c, r_nc, r_keepE, Nat.zero_add, Nat.add_zero, Nat.mul_one, Int.toNat_natCast, toNat_sub1, toNat_add1, decide_true, decide_false, Bool.not_true, Bool.not_false, if_true, if_false, Bool.false_eq_true, reduceCtorEq]
    exact bad _ k03 (no (fun h e => by have := (runOk_iff.1 h).2.2.1; rw [hbt] at this; cases this) hbt)
  | true =>
  by_cases g1 : n < 0
  · simp (disch := omega) only [r_ln, r_pick, r_pickT, r_pickF, r_condT, r_condF, r_gdTT, r_gdFF, r_gdTF, r_gdFT, r_gqTT, r_gqFF, r_gqTF, r_gqFT, r_not, r_lss, r_leq, r_gtr, r_geq, r_eql, r_neq, r_add, r_sub, r_min2, r_max2, r_min3, r_max3, r_fa, r_iaS, r_iaA, r_ex2a, r_ex2b, r_ex3a, r_ex3b, r_ex3c, r_nc, r_keepE, Nat.zero_add, Nat.add_zero, Nat.mul_one, Int.toNat_natCast, toNat_sub1, toNat_add1, decide_true, decide_false, Bool.not_true, Bool.not_false, if_true, if_false, Bool.false_eq_true, reduceCtorEq, decide_eq_true g1]
    exact bad _ k03 (no (fun h e => by have := (runOk_iff.1 h).2.2.2; omega) g1)
  by_cases g2 : 4 < n
  · simp (disch := omega) only [r_ln, r_pick, r_pickT, r_pickF, r_condT, r_condF, r_gdTT, r_gdFF, r_gdTF, r_gdFT, r_gqTT, r_gqFF, r_gqTF, r_gqFT, r_not, r_lss, r_leq, r_gtr, r_geq, r_eql, r_neq, r_add, r_sub, r_min2, r_max2, r_min3, r_max3, r_fa, r_iaS, r_iaA, r_ex2a, r_ex2b, r_ex3a, r_ex3b, r_ex3c, r_nc, r_keepE, Nat.zero_add, Nat.add_zero, Nat.mul_one, Int.toNat_natCast, toNat_sub1, toNat_add1, decide_true, decide_false, Bool.not_true, Bool.not_false, if_true, if_false, Bool.false_eq_true, reduceCtorEq, g1, decide_eq_true g2]
    exact bad _ k03 (no (fun h e => by have := (runOk_iff.1 h).2.2.2; omega) g2)
  simp (disch := omega) only [r_ln, r_pick, r_pickT, r_pickF, r_condT, r_condF, r_gdTT, r_gdFF, r_gdTF, r_gdFT, r_gqTT, r_gqFF, r_gqTF, r_gqFT, r_not, r_lss, r_leq, r_gtr, r_geq, r_eql, r_neq, r_add, r_sub, r_min2, r_max2, r_min3, r_max3, r_fa, r_iaS, r_iaA, r_ex2a, r_ex2b, r_ex3a, r_ex3b, r_ex3c, r_nc, r_keepE, Nat.zero_add, Nat.add_zero, Nat.mul_one, Int.toNat_natCast, toNat_sub1, toNat_add1, decide_true, decide_false, Bool.not_true, Bool.not_false, if_true, if_false, Bool.false_eq_true, reduceCtorEq, g1, g2]
  have hbits := bits_iff.1 hbt
  obtain ⟨s, rfl, hTO⟩ := tOk_of hm
  refine r_use fok79 (clone_calls w3 (ht.below k03) (by omega)) rfl ?_
  rintro _ w4 ⟨v', rfl, ho, k4⟩
  refine ⟨_, rfl, ?_⟩
  refine r41_0 h13 (hr.kp k03) hTO hbits (by omega) (by omega) ho k4 fun w' ho' kk => ⟨Kp.trans k03 kk, .inr ⟨runOk_iff.2 ⟨hm, hsd, hbt, by omega, by omega⟩, v', rfl, ho'.down k03.size⟩⟩

end Go.Proofs.Ytgalbokmgffhkaa
