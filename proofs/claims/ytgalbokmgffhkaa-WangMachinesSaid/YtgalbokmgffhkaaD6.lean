/- Contract: Machine of the specification, loop by loop. -/
import Derived.Test.YtgalbokmgffhkaaD5
set_option linter.all false
namespace Go.Proofs.Ytgalbokmgffhkaa
open Go.Lf Go.RowKit Go.Wg

abbrev pb (b : Nat) : Value := .pointer (some ⟨b, 0, none⟩)
/-- The next tiles of one symbol; of one state; whole rows of them. -/
abbrev mtA (S : Nat) (i : Nat) : List Tile := (List.range S).flatMap (mt2 S i)
abbrev mtB (S : Nat) (T : List Ent) (q : Nat) : List Tile := (List.range 2).flatMap (mt3 S T q)
theorem mtA_le (S i : Nat) : (mtA S i).length ≤ S * 2 := fl_le _ 2 (fun q => by rw [mt2_len]; omega) S
theorem mtB_le (S : Nat) (T : List Ent) (q : Nat) : (mtB S T q).length ≤ 2 := fl_le _ 1 (fun z => mt3_len S T q z) 2

set_option maxRecDepth 100000 in
theorem r40_2 {w2 w : World} {b1 s i : Nat} {tv v : Value} {P : List Tile} {next : Value → Value → World → Prop}
    (h1 : w2.heap[b1]? = some (.cells #[.int .i64 s, tv] 51 (0, 0))) (hs : s ≤ 2) (hi : i < 2) (hP : TlAt w2.heap.size w v P) (hl : P.length ≤ 100) (k : Kp w2 w)
    (hn : ∀ v' w', TlAt w2.heap.size w' v' (P ++ mtA s i) → Kp w2 w' → next v' (.int .i64 ((i : Int) + 1)) w') :
    S40L2 (pb b1) v (.int .i64 i) next w := by
  unfold S40L2
  refine ⟨fun t4 t7 wz => ∃ q : Nat, q ≤ s ∧ t7 = .int .i64 q ∧ TlAt w2.heap.size wz t4 (P ++ (List.range q).flatMap (mt2 s i)) ∧ Kp w2 wz, fun _ t7 _ => s - (intOf t7).toNat, ⟨0, by omega, rfl, by simpa using hP, k⟩, ?_⟩
  rintro _ t4 _ wz ⟨q, hq, rfl, hPq, kz⟩
  have cS : wz.cell? ⟨b1, 0, none⟩ = some (.int .i64 s) := by rw [cell_row (block_below h1 kz)]; rfl
  have hlq : ((List.range q).flatMap (mt2 s i)).length ≤ q * 2 := fl_le _ 2 (fun q => by rw [mt2_len]; omega) q
  by_cases hql : q < s
  case neg =>
    have hql' : ¬ (q : Int) < (s : Int) := by omega
    have eq : q = s := by omega
    subst eq
    simp (disch := omega) only [r_ln, r_pick, r_pickT, r_pickF, r_condT, r_condF, r_gdTT, r_gdFF, r_gdTF, r_gdFT, r_gqTT, r_gqFF, r_gqTF, r_gqFT, r_not, r_lss, r_leq, r_gtr, r_geq, r_eql, r_neq, r_add, r_sub, r_min2, r_max2, r_min3, r_max3, r_fa, r_iaS, r_iaA, r_ex2a, r_ex2b, r_ex3a, r_ex3b, r_ex3c, r_nc, r_keepE, Nat.zero_add, Nat.add_zero, Nat.mul_one, Int.toNat_natCast, toNat_sub1, toNat_add1, decide_true, decide_false, Bool.not_true, Bool.not_false, if_true, if_false, Bool.false_eq_true, reduceCtorEq, r_ld cS, hql']
    exact hn t4 wz hPq kz
  have hql' : (q : Int) < (s : Int) := by omega
  simp (disch := omega) only [r_ln, r_pick, r_pickT, r_pickF, r_condT, r_condF, r_gdTT, r_gdFF, r_gdTF, r_gdFT, r_gqTT, r_gqFF, r_gqTF, r_gqFT, r_not, r_lss, r_leq, r_gtr, r_geq, r_eql, r_neq, r_add, r_sub, r_min2, r_max2, r_min3, r_max3, r_fa, r_iaS, r_iaA, r_ex2a, r_ex2b, r_ex3a, r_ex3b, r_ex3c, r_nc, r_keepE, Nat.zero_add, Nat.add_zero, Nat.mul_one, Int.toNat_natCast, toNat_sub1, toNat_add1, decide_true, decide_false, Bool.not_true, Bool.not_false, if_true, if_false, Bool.false_eq_true, reduceCtorEq, r_ld cS, decide_eq_true hql', r_mul, bdB, bdC]
  refine r_pushT (w1 := w2) hPq (by simp only [List.length_append]; omega) kz fun v1 u1 o1 q1 => ?_
  have cS1 : u1.cell? ⟨b1, 0, none⟩ = some (.int .i64 s) := by rw [cell_row (block_below h1 q1)]; rfl
  simp (disch := omega) only [r_ln, r_pick, r_pickT, r_pickF, r_condT, r_condF, r_gdTT, r_gdFF, r_gdTF, r_gdFT, r_gqTT, r_gqFF, r_gqTF, r_gqFT, r_not, r_lss, r_leq, r_gtr, r_geq, r_eql, r_neq, r_add, r_sub, r_min2, r_max2, r_min3, r_max3, r_fa, r_iaS, r_iaA, r_ex2a, r_ex2b, r_ex3a, r_ex3b, r_ex3c, r_nc, r_keepE, Nat.zero_add, Nat.add_zero, Nat.mul_one, Int.toNat_natCast, toNat_sub1, toNat_add1, decide_true, decide_false, Bool.not_true, Bool.not_false, if_true, if_false, Bool.false_eq_true, reduceCtorEq, r_ld cS1, bdC]
  refine r_pushT (w1 := w2) o1 (by simp only [List.length_append, List.length_cons, List.length_nil]; omega) q1 fun v2 u2 o2 q2 => ?_
  try simp (disch := omega) only [r_ln, r_pick, r_pickT, r_pickF, r_condT, r_condF, r_gdTT, r_gdFF, r_gdTF, r_gdFT, r_gqTT, r_gqFF, r_gqTF, r_gqFT, r_not, r_lss, r_leq, r_gtr, r_geq, r_eql, r_neq, r_add, r_sub, r_min2, r_max2, r_min3, r_max3, r_fa, r_iaS, r_iaA, r_ex2a, r_ex2b, r_ex3a, r_ex3b, r_ex3c, r_nc, r_keepE, Nat.zero_add, Nat.add_zero, Nat.mul_one, Int.toNat_natCast, toNat_sub1, toNat_add1, decide_true, decide_false, Bool.not_true, Bool.not_false, if_true, if_false, Bool.false_eq_true, reduceCtorEq]
  refine ⟨⟨q + 1, by omega, by go_num, ?_, q2⟩, by simp only [intOf]; omega⟩
  rw [fl_succ]
  have e : mt2 s i q = [((i : Int), 0, 2 + 2 * (q : Int) + i, 1 + (q : Int))] ++ [((i : Int), 1 + (s : Int) + q, 2 + 2 * (q : Int) + i, 0)] := rfl
  rw [e, ← List.append_assoc, ← List.append_assoc]
  exact o2

set_option maxRecDepth 100000 in
theorem r40_4 {w2 w : World} {b1 s q : Nat} {tv v : Value} {T : List Ent} {P : List Tile} {next : Value → Value → World → Prop}
    (h1 : w2.heap[b1]? = some (.cells #[.int .i64 s, tv] 51 (0, 0))) (hr : RdE w2 tv T) (hs : s ≤ 2) (hq : q < s) (hT : T.length = 2 * s) (hE : ∀ x ∈ T, -1 ≤ x.2.2 ∧ x.2.2 < s) (hP : TlAt w2.heap.size w v P) (hl : P.length ≤ 100) (k : Kp w2 w)
    (hn : ∀ v' w', TlAt w2.heap.size w' v' (P ++ mtB s T q) → Kp w2 w' → next v' (.int .i64 ((q : Int) + 1)) w') :
    S40L4 (pb b1) v (.int .i64 q) next w := by
  unfold S40L4
  refine ⟨fun t4 t9 wz => ∃ z : Nat, z ≤ 2 ∧ t9 = .int .i64 z ∧ TlAt w2.heap.size wz t4 (P ++ (List.range z).flatMap (mt3 s T q)) ∧ Kp w2 wz, fun _ t9 _ => 2 - (intOf t9).toNat, ⟨0, by omega, rfl, by simpa using hP, k⟩, ?_⟩
  rintro _ t4 _ wz ⟨z, hz, rfl, hPz, kz⟩
  by_cases hzl : z < 2
  case neg =>
    have hzl' : ¬ (z : Int) < 2 := by omega
    have ez : z = 2 := by omega
    subst ez
    simp (disch := omega) only [r_ln, r_pick, r_pickT, r_pickF, r_condT, r_condF, r_gdTT, r_gdFF, r_gdTF, r_gdFT, r_gqTT, r_gqFF, r_gqTF, r_gqFT, r_not, r_lss, r_leq, r_gtr, r_geq, r_eql, r_neq, r_add, r_sub, r_min2, r_max2, r_min3, r_max3, r_fa, r_iaS, r_iaA, r_ex2a, r_ex2b, r_ex3a, r_ex3b, r_ex3c, r_nc, r_keepE, Nat.zero_add, Nat.add_zero, Nat.mul_one, Int.toNat_natCast, toNat_sub1, toNat_add1, decide_true, decide_false, Bool.not_true, Bool.not_false, if_true, if_false, Bool.false_eq_true, reduceCtorEq, hzl']
    exact hn t4 wz hPz kz
  have hzl' : (z : Int) < 2 := by omega
  have hlz : ((List.range z).flatMap (mt3 s T q)).length ≤ z * 1 := fl_le _ 1 (fun z => mt3_len s T q z) z
  have cT : wz.cell? ⟨b1, 1, none⟩ = some tv := by rw [cell_row (block_below h1 kz)]; rfl
  simp (disch := omega) only [r_ln, r_pick, r_pickT, r_pickF, r_condT, r_condF, r_gdTT, r_gdFF, r_gdTF, r_gdFT, r_gqTT, r_gqFF, r_gqTF, r_gqFT, r_not, r_lss, r_leq, r_gtr, r_geq, r_eql, r_neq, r_add, r_sub, r_min2, r_max2, r_min3, r_max3, r_fa, r_iaS, r_iaA, r_ex2a, r_ex2b, r_ex3a, r_ex3b, r_ex3c, r_nc, r_keepE, Nat.zero_add, Nat.add_zero, Nat.mul_one, Int.toNat_natCast, toNat_sub1, toNat_add1, decide_true, decide_false, Bool.not_true, Bool.not_false, if_true, if_false, Bool.false_eq_true, reduceCtorEq, decide_eq_true hzl']
  refine r_join1 (fun v' w' => TlAt w2.heap.size w' v' (P ++ (List.range (z + 1)).flatMap (mt3 s T q)) ∧ Kp w2 w') (fun v' w' ⟨ho, kk⟩ => ?_) fun k' hk' => ?_
  · try simp (disch := omega) only [r_ln, r_pick, r_pickT, r_pickF, r_condT, r_condF, r_gdTT, r_gdFF, r_gdTF, r_gdFT, r_gqTT, r_gqFF, r_gqTF, r_gqFT, r_not, r_lss, r_leq, r_gtr, r_geq, r_eql, r_neq, r_add, r_sub, r_min2, r_max2, r_min3, r_max3, r_fa, r_iaS, r_iaA, r_ex2a, r_ex2b, r_ex3a, r_ex3b, r_ex3c, r_nc, r_keepE, Nat.zero_add, Nat.add_zero, Nat.mul_one, Int.toNat_natCast, toNat_sub1, toNat_add1, decide_true, decide_false, Bool.not_true, Bool.not_false, if_true, if_false, Bool.false_eq_true, reduceCtorEq]
    exact ⟨⟨z + 1, by omega, by go_num, ho, kk⟩, by simp only [intOf]; omega⟩
  have hlt : 2 * q + z < T.length := by omega
  obtain ⟨x, hx⟩ : ∃ x, T[2 * q + z]? = some x := ⟨_, List.getElem?_eq_getElem hlt⟩
  have hxE := hE x (List.mem_of_getElem? hx)
  have hm3 : mt3 s T q z = if x.2.2 < 0 then [] else if x.2.1 = true then [(2 + 2 * (q : Int) + z, 1 + x.2.2, x.1, 0)] else [(2 + 2 * (q : Int) + z, 0, x.1, 1 + (s : Int) + x.2.2)] := by
    simp only [mt3, List.getD_eq_getElem?_getD, hx, Option.getD_some]
  obtain ⟨b, off, cap, etv, _, hld⟩ := RdE.ent (hr.kp kz) hx
  subst etv
  have e2 : (2 * (q : Int) + z).toNat = 2 * q + z := by omega
  simp (disch := omega) only [r_ln, r_pick, r_pickT, r_pickF, r_condT, r_condF, r_gdTT, r_gdFF, r_gdTF, r_gdFT, r_gqTT, r_gqFF, r_gqTF, r_gqFT, r_not, r_lss, r_leq, r_gtr, r_geq, r_eql, r_neq, r_add, r_sub, r_min2, r_max2, r_min3, r_max3, r_fa, r_iaS, r_iaA, r_ex2a, r_ex2b, r_ex3a, r_ex3b, r_ex3c, r_nc, r_keepE, Nat.zero_add, Nat.add_zero, Nat.mul_one, Int.toNat_natCast, toNat_sub1, toNat_add1, decide_true, decide_false, Bool.not_true, Bool.not_false, if_true, if_false, Bool.false_eq_true, reduceCtorEq, r_ld cT, r_mul, e2, hld]
  refine r_box fun b4 w4 e4 s4 h4 k4 => ?_
  refine r_stAll (n := 3) (ty := 102) (by kernel_rfl) rfl (by intro u hu; simp [Value.cells] at hu; rcases hu with rfl | rfl | rfl <;> rfl) h4 rfl fun w5 d5 t5 h5 => ?_
  have k5 : Kp wz w5 := Kp.of_chg k4 d5 fun i e => by omega
  have kz5 := Kp.trans kz k5
  have c0 : w5.cell? ⟨b4, 0, none⟩ = some (.int .i64 x.1) := by rw [cell_row h5]; rfl
  simp (disch := omega) only [r_ln, r_pick, r_pickT, r_pickF, r_condT, r_condF, r_gdTT, r_gdFF, r_gdTF, r_gdFT, r_gqTT, r_gqFF, r_gqTF, r_gqFT, r_not, r_lss, r_leq, r_gtr, r_geq, r_eql, r_neq, r_add, r_sub, r_min2, r_max2, r_min3, r_max3, r_fa, r_iaS, r_iaA, r_ex2a, r_ex2b, r_ex3a, r_ex3b, r_ex3c, r_nc, r_keepE, Nat.zero_add, Nat.add_zero, Nat.mul_one, Int.toNat_natCast, toNat_sub1, toNat_add1, decide_true, decide_false, Bool.not_true, Bool.not_false, if_true, if_false, Bool.false_eq_true, reduceCtorEq, r_ld c0, r_mul, bdA]
  refine r_box fun b6 w6 e6 s6 h6 k6 => ?_
  refine r_stAll (n := 4) (ty := 32) (by kernel_rfl) rfl (by intro u hu; simp [Value.cells] at hu; rcases hu with rfl | rfl | rfl | rfl <;> rfl) h6 rfl fun w7 d7 t7 h7 => ?_
  have k7 : Kp w5 w7 := Kp.of_chg k6 d7 fun i e => by omega
  have kz7 := Kp.trans kz5 k7
  have h57 := block_below h5 k7
  have c1 : w7.cell? ⟨b4, 1, none⟩ = some (.bool x.2.1) := by rw [cell_row h57]; rfl
  have c2 : w7.cell? ⟨b4, 2, none⟩ = some (.int .i64 x.2.2) := by rw [cell_row h57]; rfl
  have cS7 : w7.cell? ⟨b1, 0, none⟩ = some (.int .i64 s) := by rw [cell_row (block_below h1 kz7)]; rfl
  rw [fl_succ, hm3, ← List.append_assoc] at hk'
  by_cases g1 : x.2.2 < 0
  · simp (disch := omega) only [r_ln, r_pick, r_pickT, r_pickF, r_condT, r_condF, r_gdTT, r_gdFF, r_gdTF, r_gdFT, r_gqTT, r_gqFF, r_gqTF, r_gqFT, r_not, r_lss, r_leq, r_gtr, r_geq, r_eql, r_neq, r_add, r_sub, r_min2, r_max2, r_min3, r_max3, r_fa, r_iaS, r_iaA, r_ex2a, r_ex2b, r_ex3a, r_ex3b, r_ex3c, r_nc, r_keepE, Nat.zero_add, Nat.add_zero, Nat.mul_one, Int.toNat_natCast, toNat_sub1, toNat_add1, decide_true, decide_false, Bool.not_true, Bool.not_false, if_true, if_false, Bool.false_eq_true, reduceCtorEq, r_ld c2, decide_eq_true g1]
    refine hk' _ _ ⟨?_, kz7⟩
    rw [if_pos g1, List.append_nil]
    exact hPz.kp (Kp.trans k5 k7)
  rw [if_neg g1] at hk'
  simp (disch := omega) only [r_ln, r_pick, r_pickT, r_pickF, r_condT, r_condF, r_gdTT, r_gdFF, r_gdTF, r_gdFT, r_gqTT, r_gqFF, r_gqTF, r_gqFT, r_not, r_lss, r_leq, r_gtr, r_geq, r_eql, r_neq, r_add, r_sub, r_min2, r_max2, r_min3, r_max3, r_fa, r_iaS, r_iaA, r_ex2a, r_ex2b, r_ex3a, r_ex3b, r_ex3c, r_nc, r_keepE, Nat.zero_add, Nat.add_zero, Nat.mul_one, Int.toNat_natCast, toNat_sub1, toNat_add1, decide_true, decide_false, Bool.not_true, Bool.not_false, if_true, if_false, Bool.false_eq_true, reduceCtorEq, r_ld c2, g1, r_ld c1]
  have hP7 := hPz.kp (Kp.trans k5 k7)
  have h6b : w5.heap.size = b6 := by omega
  refine r_join0 (fun w' => Kp w2 w' ∧ TlAt w2.heap.size w' t4 (P ++ (List.range z).flatMap (mt3 s T q)) ∧ w'.heap[b6]? = some (.cells (if x.2.1 = true then #[.int .i64 (2 + 2 * (q : Int) + z), .int .i64 (1 + x.2.2), .int .i64 x.1, .int .i64 0] else #[.int .i64 (2 + 2 * (q : Int) + z), .int .i64 0, .int .i64 x.1, .int .i64 (1 + (s : Int) + x.2.2)]) 32 (0, 0))) (fun w' ⟨kk, ho, hb⟩ => ?_) fun k'' hk'' => ?_
  · rw [r_ldRow (n := 4) hb (by split <;> rfl)]
    cases hx1 : x.2.1 with
    | true =>
      rw [hx1] at hk'
      simp only [if_true]
      refine r_pushT (w1 := w2) (t := (2 + 2 * (q : Int) + z, 1 + x.2.2, x.1, 0)) ho (by simp only [List.length_append]; omega) kk fun v1 u1 o1 q1 => ?_
      exact hk' _ _ ⟨o1, q1⟩
    | false =>
      rw [hx1] at hk'
      simp only [Bool.false_eq_true, if_false]
      refine r_pushT (w1 := w2) (t := (2 + 2 * (q : Int) + z, 0, x.1, 1 + (s : Int) + x.2.2)) ho (by simp only [List.length_append]; omega) kk fun v1 u1 o1 q1 => ?_
      exact hk' _ _ ⟨o1, q1⟩
  have hst : ∀ (j : Nat) (y : Int), j < 4 → Kp w2 (w7.setCell ⟨b6, j, none⟩ (.int .i64 y)) ∧ TlAt w2.heap.size (w7.setCell ⟨b6, j, none⟩ (.int .i64 y)) t4 (P ++ (List.range z).flatMap (mt3 s T q)) := fun j y hj => by
    have hc : Chg (fun k => k = b6) w7 (w7.setCell ⟨b6, j, none⟩ (.int .i64 y)) := Chg.setCell _ _ rfl
    have := kz5.size
    refine ⟨Kp.of_chg kz7 hc fun i e => by omega, hP7.chg hc fun kk hkk e => ?_⟩
    have := (hPz.lt hkk).2
    have := k5.size
    omega
  cases hx1 : x.2.1 with
  | true =>
    simp (disch := omega) only [r_ln, r_pick, r_pickT, r_pickF, r_condT, r_condF, r_gdTT, r_gdFF, r_gdTF, r_gdFT, r_gqTT, r_gqFF, r_gqTF, r_gqFT, r_not, r_lss, r_leq, r_gtr, r_geq, r_eql, r_neq, r_add, r_sub, r_min2, r_max2, r_min3, r_max3, r_fa, r_iaS, r_iaA, r_ex2a, r_ex2b, r_ex3a, r_ex3b, r_ex3c, r_nc, r_keepE, Nat.zero_add, Nat.add_zero, Nat.mul_one, Int.toNat_natCast, toNat_sub1, toNat_add1, decide_true, decide_false, Bool.not_true, Bool.not_false, if_true, if_false, Bool.false_eq_true, reduceCtorEq, r_ld c2]
    rw [st3 (v := .int .i64 0) (by rw [cell_row h7]; rfl) (frozen_row h7)]
    refine hk'' _ ⟨(hst 1 _ (by omega)).1, (hst 1 _ (by omega)).2, ?_⟩
    rw [setCell_block (o := 1) h7 rfl, hx1]
    rfl
  | false =>
    simp (disch := omega) only [r_ln, r_pick, r_pickT, r_pickF, r_condT, r_condF, r_gdTT, r_gdFF, r_gdTF, r_gdFT, r_gqTT, r_gqFF, r_gqTF, r_gqFT, r_not, r_lss, r_leq, r_gtr, r_geq, r_eql, r_neq, r_add, r_sub, r_min2, r_max2, r_min3, r_max3, r_fa, r_iaS, r_iaA, r_ex2a, r_ex2b, r_ex3a, r_ex3b, r_ex3c, r_nc, r_keepE, Nat.zero_add, Nat.add_zero, Nat.mul_one, Int.toNat_natCast, toNat_sub1, toNat_add1, decide_true, decide_false, Bool.not_true, Bool.not_false, if_true, if_false, Bool.false_eq_true, reduceCtorEq, r_ld c2, r_ld cS7]
    rw [st3 (v := .int .i64 0) (by rw [cell_row h7]; rfl) (frozen_row h7)]
    refine hk'' _ ⟨(hst 3 _ (by omega)).1, (hst 3 _ (by omega)).2, ?_⟩
    rw [setCell_block (o := 3) h7 rfl, hx1]
    rfl

end Go.Proofs.Ytgalbokmgffhkaa
