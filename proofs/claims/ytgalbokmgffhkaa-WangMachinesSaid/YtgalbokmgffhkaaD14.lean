/- Contract: WangMachines. -/
import Derived.Test.YtgalbokmgffhkaaD13
import Derived.Test.YtgalbokmgffhkaaB9
set_option linter.all false
namespace Go.Proofs.Ytgalbokmgffhkaa
open Go.Lf Go.RowKit Go.Wg

theorem r_ex4a (x y z u : Value) {K : Value → Prop} : exQ (.tuple #[x, y, z, u]) 0 K = K x := rfl
theorem r_ex4b (x y z u : Value) {K : Value → Prop} : exQ (.tuple #[x, y, z, u]) 1 K = K y := rfl
theorem r_ex4c (x y z u : Value) {K : Value → Prop} : exQ (.tuple #[x, y, z, u]) 2 K = K z := rfl
theorem r_ex4d (x y z u : Value) {K : Value → Prop} : exQ (.tuple #[x, y, z, u]) 3 K = K u := rfl
theorem MacPost.form {S : Int} {T : List Ent} {base : Nat} {w : World} {e : Ending} (h : MacPost S T base w e) : ∃ v, e = .returned (.tuple #[v, .int .i64 (if macB S T = true then 0 else 2)]) ∧ Rd 4 tlC w v (if macB S T = true then machT S.toNat T else []) := by
  rcases h with ⟨h, rfl⟩ | ⟨h, v, rfl, ho⟩
  · rw [h]
    exact ⟨_, rfl, Rd.nil⟩
  · rw [h]
    exact ⟨_, rfl, ho.rd tlC_len⟩
theorem RunPost.form {S : Int} {T : List Ent} {tape : List Int} {n : Int} {base : Nat} {w : World} {e : Ending} (h : RunPost S T tape n base w e) :
    ∃ v a q, e = .returned (.tuple #[v, .int .i64 a, .int .i64 q, .int .i64 (if runOk S T tape n = true then 0 else 2)]) ∧
      a = (if runOk S T tape n = true then (runM T (tape, 0, 0) n.toNat).2.1 else 0) ∧ q = (if runOk S T tape n = true then (runM T (tape, 0, 0) n.toNat).2.2 else 0) ∧ Rd 1 iC w v (if runOk S T tape n = true then (runM T (tape, 0, 0) n.toNat).1 else []) := by
  rcases h with ⟨h, rfl⟩ | ⟨h, v, rfl, ho⟩
  · rw [h]
    exact ⟨_, 0, 0, rfl, rfl, rfl, Rd.nil⟩
  · rw [h]
    exact ⟨_, _, _, rfl, rfl, rfl, ho.rd iC_len⟩

theorem machT_le {S : Int} {T : List Ent} (h : macB S T = true) : (machT S.toNat T).length ≤ 100 := by
  obtain ⟨s, rfl, h1, h2, _, _⟩ := mac_of h
  have e1 : ((List.range 2).flatMap (mtA s)).length ≤ 2 * 4 := fl_le _ 4 (fun q => by have := mtA_le s q; omega) 2
  have e2 : ((List.range s).flatMap (mtB s T)).length ≤ s * 2 := fl_le _ 2 (fun q => mtB_le s T q) s
  have e3 : machT ((s : Int).toNat) T = mt1 ++ (List.range 2).flatMap (mtA s) ++ (List.range s).flatMap (mtB s T) := rfl
  rw [e3]
  simp only [List.length_append]
  have : mt1.length = 2 := rfl
  omega

set_option maxRecDepth 100000 in
theorem machines_calls {S n : Int} {tv vt : Value} {T : List Ent} {tape : List Int} (w : World) (hr : RdE w tv T) (ht : RdI w vt tape) : Calls Try.prog 10 #[macV S tv, vt, .int .i64 n] w fun e w' => e = .returned (.bool true) ∧ Kp w w' := by
  obtain ⟨ta, tcap, rfl, _⟩ := hr.len
  have ht' := ht
  obtain ⟨aa, ca, rfl, _, _⟩ := ht'
  refine lift10 ?_
  unfold S10
  refine r_box fun b1 w1 e1 s1 h1 k1 => ?_
  have h1' : w1.heap[b1]? = some (.cells #[.int .i64 S, .slice ta T.length tcap] 51 (0, 0)) := h1
  have cT : w1.cell? ⟨b1, 1, none⟩ = some (.slice ta T.length tcap) := by rw [cell_row h1']; rfl
  have fin : ∀ (w' : World), Kp w w' → Calls Try.prog 18 #[] w' fun e w'' => e = .returned (.bool true) ∧ Kp w w'' := fun w' k => (law_alive w').mono fun e w'' h => ⟨h.1, Kp.trans k h.2⟩
  by_cases hl : (20 : Int) < (T.length : Int)
  · simp (disch := omega) only [r_ln, r_pick, r_pickT, r_pickF, r_condT, r_condF, r_gdTT, r_gdFF, r_gdTF, r_gdFT, r_gqTT, r_gqFF, r_gqTF, r_gqFT, r_not, r_lss, r_leq, r_gtr, r_geq, r_eql, r_neq, r_add, r_sub, r_min2, r_max2, r_min3, r_max3, r_fa, r_iaS, r_iaA, r_ex2a, r_ex2b, r_ex3a, r_ex3b, r_ex3c, r_nc, r_keepE, Nat.zero_add, Nat.add_zero, Nat.mul_one, Int.toNat_natCast, toNat_sub1, toNat_add1, decide_true, decide_false, Bool.not_true, Bool.not_false, if_true, if_false, Bool.false_eq_true, reduceCtorEq, r_ld cT, decide_eq_true hl]
    refine r_use fok18 (fin w1 k1) rfl ?_
    rintro _ w2 ⟨rfl, k2⟩
    exact ⟨_, rfl, by first | rfl | trivial, k2⟩
  by_cases hl2 : (20 : Int) < (tape.length : Int)
  · simp (disch := omega) only [r_ln, r_pick, r_pickT, r_pickF, r_condT, r_condF, r_gdTT, r_gdFF, r_gdTF, r_gdFT, r_gqTT, r_gqFF, r_gqTF, r_gqFT, r_not, r_lss, r_leq, r_gtr, r_geq, r_eql, r_neq, r_add, r_sub, r_min2, r_max2, r_min3, r_max3, r_fa, r_iaS, r_iaA, r_ex2a, r_ex2b, r_ex3a, r_ex3b, r_ex3c, r_nc, r_keepE, Nat.zero_add, Nat.add_zero, Nat.mul_one, Int.toNat_natCast, toNat_sub1, toNat_add1, decide_true, decide_false, Bool.not_true, Bool.not_false, if_true, if_false, Bool.false_eq_true, reduceCtorEq, r_ld cT, hl, decide_eq_true hl2]
    refine r_use fok18 (fin w1 k1) rfl ?_
    rintro _ w2 ⟨rfl, k2⟩
    exact ⟨_, rfl, by first | rfl | trivial, k2⟩
  simp (disch := omega) only [r_ln, r_pick, r_pickT, r_pickF, r_condT, r_condF, r_gdTT, r_gdFF, r_gdTF, r_gdFT, r_gqTT, r_gqFF, r_gqTF, r_gqFT, r_not, r_lss, r_leq, r_gtr, r_geq, r_eql, r_neq, r_add, r_sub, r_min2, r_max2, r_min3, r_max3, r_fa, r_iaS, r_iaA, r_ex2a, r_ex2b, r_ex3a, r_ex3b, r_ex3c, r_nc, r_keepE, Nat.zero_add, Nat.add_zero, Nat.mul_one, Int.toNat_natCast, toNat_sub1, toNat_add1, decide_true, decide_false, Bool.not_true, Bool.not_false, if_true, if_false, Bool.false_eq_true, reduceCtorEq, r_ld cT, hl, hl2]
  have hti : RdInts w (.slice aa tape.length ca) tape := ht.small (by omega)
  refine r_copyI (hti.below k1) (by omega) fun v2 w2 o2 k2 _ => ?_
  have k02 := Kp.trans k1 k2
  rw [r_ldRow (n := 2) (block_below h1' k2) rfl]
  refine r_use fok39 (machine39_calls (T := T) w2 (hr.kp k02) (by omega)) rfl ?_
  rintro _ w3 ⟨k3, p3⟩
  obtain ⟨v3, rfl, r3⟩ := p3.form
  refine ⟨_, rfl, ?_⟩
  have k23 := k3
  have k03 := Kp.trans k02 k3
  simp (disch := omega) only [r_ln, r_pick, r_pickT, r_pickF, r_condT, r_condF, r_gdTT, r_gdFF, r_gdTF, r_gdFT, r_gqTT, r_gqFF, r_gqTF, r_gqFT, r_not, r_lss, r_leq, r_gtr, r_geq, r_eql, r_neq, r_add, r_sub, r_min2, r_max2, r_min3, r_max3, r_fa, r_iaS, r_iaA, r_ex2a, r_ex2b, r_ex3a, r_ex3b, r_ex3c, r_nc, r_keepE, Nat.zero_add, Nat.add_zero, Nat.mul_one, Int.toNat_natCast, toNat_sub1, toNat_add1, decide_true, decide_false, Bool.not_true, Bool.not_false, if_true, if_false, Bool.false_eq_true, reduceCtorEq]
  rw [r_ldRow (n := 2) (block_below (block_below h1' k2) k3) rfl]
  refine r_use fok40 (refmachine_calls (T := T) w3 (hr.kp k03) (by omega)) rfl ?_
  rintro _ w4 ⟨k4, p4⟩
  obtain ⟨v4, rfl, r4⟩ := p4.form
  refine ⟨_, rfl, ?_⟩
  have k04 := Kp.trans k03 k4
  have k24 := Kp.trans k23 k4
  have hself : ∀ x : Int, decide (x = x) = true := fun x => decide_eq_true rfl
  simp (disch := omega) only [r_ln, r_pick, r_pickT, r_pickF, r_condT, r_condF, r_gdTT, r_gdFF, r_gdTF, r_gdFT, r_gqTT, r_gqFF, r_gqTF, r_gqFT, r_not, r_lss, r_leq, r_gtr, r_geq, r_eql, r_neq, r_add, r_sub, r_min2, r_max2, r_min3, r_max3, r_fa, r_iaS, r_iaA, r_ex2a, r_ex2b, r_ex3a, r_ex3b, r_ex3c, r_nc, r_keepE, Nat.zero_add, Nat.add_zero, Nat.mul_one, Int.toNat_natCast, toNat_sub1, toNat_add1, decide_true, decide_false, Bool.not_true, Bool.not_false, if_true, if_false, Bool.false_eq_true, reduceCtorEq, hself]
  have hml : (if macB S T = true then machT S.toNat T else []).length ≤ 1000000 := by
    split
    · rename_i h
      have := machT_le h
      omega
    · simp
  refine r_use fok30 (sets_calls w4 (r3.kp k4) r4 hml) rfl ?_
  rintro _ w5 ⟨rfl, k5⟩
  refine ⟨_, rfl, ?_⟩
  have hselfT : ∀ x : List Tile, decide (x = x) = true := fun x => decide_eq_true rfl
  have hselfI : ∀ x : List Int, decide (x = x) = true := fun x => decide_eq_true rfl
  have k05 := Kp.trans k04 k5
  have k25 := Kp.trans k24 k5
  simp (disch := omega) only [r_ln, r_pick, r_pickT, r_pickF, r_condT, r_condF, r_gdTT, r_gdFF, r_gdTF, r_gdFT, r_gqTT, r_gqFF, r_gqTF, r_gqFT, r_not, r_lss, r_leq, r_gtr, r_geq, r_eql, r_neq, r_add, r_sub, r_min2, r_max2, r_min3, r_max3, r_fa, r_iaS, r_iaA, r_ex2a, r_ex2b, r_ex3a, r_ex3b, r_ex3c, r_nc, r_keepE, Nat.zero_add, Nat.add_zero, Nat.mul_one, Int.toNat_natCast, toNat_sub1, toNat_add1, decide_true, decide_false, Bool.not_true, Bool.not_false, if_true, if_false, Bool.false_eq_true, reduceCtorEq, hselfT]
  have h15 := block_below (block_below h1' k2) k25
  rw [r_ldRow (n := 2) h15 rfl]
  have o5 : IntsAt w1.heap.size w5 v2 tape := o2.kp k25
  have i5 : RdInts w5 v2 tape := Rd.ints (o5.rd iC_len) (by omega)
  refine r_use fok41 (run_calls (T := T) (n := n) w5 (hr.kp k05) (by omega) i5) rfl ?_
  rintro _ w6 ⟨k6, p6⟩
  obtain ⟨v6, a6, q6, rfl, ea6, eq6, r6⟩ := p6.form
  refine ⟨_, rfl, ?_⟩
  have k06 := Kp.trans k05 k6
  simp (disch := omega) only [r_ln, r_pick, r_pickT, r_pickF, r_condT, r_condF, r_gdTT, r_gdFF, r_gdTF, r_gdFT, r_gqTT, r_gqFF, r_gqTF, r_gqFT, r_not, r_lss, r_leq, r_gtr, r_geq, r_eql, r_neq, r_add, r_sub, r_min2, r_max2, r_min3, r_max3, r_fa, r_iaS, r_iaA, r_ex2a, r_ex2b, r_ex3a, r_ex3b, r_ex3c, r_nc, r_keepE, Nat.zero_add, Nat.add_zero, Nat.mul_one, Int.toNat_natCast, toNat_sub1, toNat_add1, decide_true, decide_false, Bool.not_true, Bool.not_false, if_true, if_false, Bool.false_eq_true, reduceCtorEq, r_ex4a, r_ex4b, r_ex4c, r_ex4d]
  rw [r_ldRow (n := 2) (block_below h15 k6) rfl]
  refine r_use fok42 (refrun_calls (T := T) (n := n) w6 (hr.kp k06) (by omega) (hti.below k06)) rfl ?_
  rintro _ w7 ⟨k7, p7⟩
  obtain ⟨v7, a7, q7, rfl, ea7, eq7, r7⟩ := p7.form
  refine ⟨_, rfl, ?_⟩
  have k07 := Kp.trans k06 k7
  have k57 := Kp.trans k6 k7
  subst ea6; subst ea7; subst eq6; subst eq7
  have hlen : (if runOk S T tape n = true then (runM T (tape, 0, 0) n.toNat).1 else []).length ≤ 1000000 := by
    split
    · rename_i h
      obtain ⟨hm, hsd, hbt, _, _⟩ := runOk_iff.1 h
      obtain ⟨s, rfl, hTO⟩ := tOk_of hm
      have := (MOk.run hTO (mOk_start hTO.s1 (bits_iff.1 hbt)) n.toNat).len
      omega
    · simp
  simp (disch := omega) only [r_ln, r_pick, r_pickT, r_pickF, r_condT, r_condF, r_gdTT, r_gdFF, r_gdTF, r_gdFT, r_gqTT, r_gqFF, r_gqTF, r_gqFT, r_not, r_lss, r_leq, r_gtr, r_geq, r_eql, r_neq, r_add, r_sub, r_min2, r_max2, r_min3, r_max3, r_fa, r_iaS, r_iaA, r_ex2a, r_ex2b, r_ex3a, r_ex3b, r_ex3c, r_nc, r_keepE, Nat.zero_add, Nat.add_zero, Nat.mul_one, Int.toNat_natCast, toNat_sub1, toNat_add1, decide_true, decide_false, Bool.not_true, Bool.not_false, if_true, if_false, Bool.false_eq_true, reduceCtorEq, hself, r_ex4a, r_ex4b, r_ex4c, r_ex4d]
  refine r_use fok43 (numbers_calls w7 (Rd.ints (r6.kp k7) hlen) (Rd.ints r7 hlen)) rfl ?_
  rintro _ w8 ⟨rfl, k8⟩
  refine ⟨_, rfl, ?_⟩
  have k08 := Kp.trans k07 k8
  simp (disch := omega) only [r_ln, r_pick, r_pickT, r_pickF, r_condT, r_condF, r_gdTT, r_gdFF, r_gdTF, r_gdFT, r_gqTT, r_gqFF, r_gqTF, r_gqFT, r_not, r_lss, r_leq, r_gtr, r_geq, r_eql, r_neq, r_add, r_sub, r_min2, r_max2, r_min3, r_max3, r_fa, r_iaS, r_iaA, r_ex2a, r_ex2b, r_ex3a, r_ex3b, r_ex3c, r_nc, r_keepE, Nat.zero_add, Nat.add_zero, Nat.mul_one, Int.toNat_natCast, toNat_sub1, toNat_add1, decide_true, decide_false, Bool.not_true, Bool.not_false, if_true, if_false, Bool.false_eq_true, reduceCtorEq, hselfI, hself]
  refine r_use fok43 (numbers_calls w8 (Rd.ints ((o5.kp (Kp.trans k57 k8)).rd iC_len) (by omega)) (hti.below k08)) rfl ?_
  rintro _ w9 ⟨rfl, k9⟩
  refine ⟨_, rfl, ?_⟩
  simp (disch := omega) only [r_ln, r_pick, r_pickT, r_pickF, r_condT, r_condF, r_gdTT, r_gdFF, r_gdTF, r_gdFT, r_gqTT, r_gqFF, r_gqTF, r_gqFT, r_not, r_lss, r_leq, r_gtr, r_geq, r_eql, r_neq, r_add, r_sub, r_min2, r_max2, r_min3, r_max3, r_fa, r_iaS, r_iaA, r_ex2a, r_ex2b, r_ex3a, r_ex3b, r_ex3c, r_nc, r_keepE, Nat.zero_add, Nat.add_zero, Nat.mul_one, Int.toNat_natCast, toNat_sub1, toNat_add1, decide_true, decide_false, Bool.not_true, Bool.not_false, if_true, if_false, Bool.false_eq_true, reduceCtorEq, hselfI]
  refine r_use fok18 (fin w9 (Kp.trans k08 k9)) rfl ?_
  rintro _ w10 ⟨rfl, k10⟩
  refine ⟨_, rfl, ?_⟩
  simp (disch := omega) only [r_ln, r_pick, r_pickT, r_pickF, r_condT, r_condF, r_gdTT, r_gdFF, r_gdTF, r_gdFT, r_gqTT, r_gqFF, r_gqTF, r_gqFT, r_not, r_lss, r_leq, r_gtr, r_geq, r_eql, r_neq, r_add, r_sub, r_min2, r_max2, r_min3, r_max3, r_fa, r_iaS, r_iaA, r_ex2a, r_ex2b, r_ex3a, r_ex3b, r_ex3c, r_nc, r_keepE, Nat.zero_add, Nat.add_zero, Nat.mul_one, Int.toNat_natCast, toNat_sub1, toNat_add1, decide_true, decide_false, Bool.not_true, Bool.not_false, if_true, if_false, Bool.false_eq_true, reduceCtorEq]
  exact ⟨by first | rfl | trivial, k10⟩

end Go.Proofs.Ytgalbokmgffhkaa
