/- Texts of my own, merged by program: D6 D7 D8. -/
import Derived.Test.YtgalbokmgffhkaaM10
set_option linter.all false
/- Contract: Machine of the specification, loop by loop. -/
namespace Go.Proofs.Ytgalbokmgffhkaa
open Go.Lf Go.RowKit Go.Wg

abbrev pb (b : Nat) : Value := .pointer (some ⟨b, 0, none⟩)
/-- The next tiles of one symbol; of one state; whole rows of them. -/
abbrev mtA (S : Nat) (i : Nat) : List Tile := (List.range S).flatMap (mt2 S i)
abbrev mtB (S : Nat) (T : List Ent) (q : Nat) : List Tile := (List.range 2).flatMap (mt3 S T q)
theorem mtA_le (S i : Nat) : (mtA S i).length ≤ S * 2 := fl_le _ 2 (fun q => by rw [mt2_len]; omega) S
theorem mtB_le (S : Nat) (T : List Ent) (q : Nat) : (mtB S T q).length ≤ 2 := fl_le _ 1 (fun z => mt3_len S T q z) 2

set_option maxRecDepth 100000 in
theorem r40_2 {w2 w : World} {b1 s i : Nat} {tv v : Value} {P : List Tile} {next : Value → Value → World → Prop}
    (h1 : w2.heap[b1]? = some (.cells #[.int .i64 s, tv] 51 (0, 0))) (hs : s ≤ 2) (hi : i < 2) (hP : TlAt w2.heap.size w v P) (hl : P.length ≤ 100) (k : Kp w2 w)
    (hn : ∀ v' w', TlAt w2.heap.size w' v' (P ++ mtA s i) → Kp w2 w' → next v' (.int .i64 ((i : Int) + 1)) w') :
    S40L2 (pb b1) v (.int .i64 i) next w := by
  unfold S40L2
  refine ⟨fun t4 t7 wz => ∃ q : Nat, q ≤ s ∧ t7 = .int .i64 q ∧ TlAt w2.heap.size wz t4 (P ++ (List.range q).flatMap (mt2 s i)) ∧ Kp w2 wz, fun _ t7 _ => s - (intOf t7).toNat, ⟨0, by omega, rfl, by simpa using hP, k⟩, ?_⟩
  rintro _ t4 _ wz ⟨q, hq, rfl, hPq, kz⟩
  have cS : wz.cell? ⟨b1, 0, none⟩ = some (.int .i64 s) := by rw [cell_row (block_below h1 kz)]; rfl
  have hlq : ((List.range q).flatMap (mt2 s i)).length ≤ q * 2 := fl_le _ 2 (fun q => by rw [mt2_len]; omega) q
  by_cases hql : q < s
  case neg =>
    have hql' : ¬ (q : Int) < (s : Int) := by omega
    have eq : q = s := by omega
    subst eq
    simp (disch := omega) only [r_ln, r_pick, r_pickT, r_pickF, r_condT, r_condF, r_gdTT, r_gdFF, r_gdTF, r_gdFT, r_gqTT, r_gqFF, r_gqTF, r_gqFT, r_not, r_lss, r_leq, r_gtr, r_geq, r_eql, r_neq, r_add, r_sub, r_min2, r_max2, r_min3, r_max3, r_fa, r_iaS, r_iaA, r_ex2a, r_ex2b, r_ex3a, r_ex3b, r_ex3c, r_nc, r_keepE, Nat.zero_add, Nat.add_zero, Nat.mul_one, Int.toNat_natCast, toNat_sub1, toNat_add1, decide_true, decide_false, Bool.not_true, Bool.not_false, if_true, if_false, Bool.false_eq_true, reduceCtorEq, r_ld cS, hql']
    exact hn t4 wz hPq kz
  have hql' : (q : Int) < (s : Int) := by omega
  simp (disch := omega) only [r_ln, r_pick, r_pickT, r_pickF, r_condT, r_condF, r_gdTT, r_gdFF, r_gdTF, r_gdFT, r_gqTT, r_gqFF, r_gqTF, r_gqFT, r_not, r_lss, r_leq, r_gtr, r_geq, r_eql, r_neq, r_add, r_sub, r_min2, r_max2, r_min3, r_max3, r_fa, r_iaS, r_iaA, r_ex2a, r_ex2b, r_ex3a, r_ex3b, r_ex3c, r_nc, r_keepE, Nat.zero_add, Nat.add_zero, Nat.mul_one, Int.toNat_natCast, toNat_sub1, toNat_add1, decide_true, decide_false, Bool.not_true, Bool.not_false, if_true, if_false, Bool.false_eq_true, reduceCtorEq, r_ld cS, decide_eq_true hql', r_mul, bdB, bdC]
  refine r_pushT (w1 := w2) hPq (by simp only [List.length_append]; omega) kz fun v1 u1 o1 q1 => ?_
  have cS1 : u1.cell? ⟨b1, 0, none⟩ = some (.int .i64 s) := by rw [cell_row (block_below h1 q1)]; rfl
  simp (disch := omega) only [r_ln, r_pick, r_pickT, r_pickF, r_condT, r_condF, r_gdTT, r_gdFF, r_gdTF, r_gdFT, r_gqTT, r_gqFF, r_gqTF, r_gqFT, r_not, r_lss, r_leq, r_gtr, r_geq, r_eql, r_neq, r_add, r_sub, r_min2, r_max2, r_min3, r_max3, r_fa, r_iaS, r_iaA, r_ex2a, r_ex2b, r_ex3a, r_ex3b, r_ex3c, r_nc, r_keepE, Nat.zero_add, Nat.add_zero, Nat.mul_one, Int.toNat_natCast, toNat_sub1, toNat_add1, decide_true, decide_false, Bool.not_true, Bool.not_false, if_true, if_false, Bool.false_eq_true, reduceCtorEq, r_ld cS1, bdC]
  refine r_pushT (w1 := w2) o1 (by simp only [List.length_append, List.length_cons, List.length_nil]; omega) q1 fun v2 u2 o2 q2 => ?_
  try simp (disch := omega) only [r_ln, r_pick, r_pickT, r_pickF, r_condT, r_condF, r_gdTT, r_gdFF, r_gdTF, r_gdFT, r_gqTT, r_gqFF, r_gqTF, r_gqFT, r_not, r_lss, r_leq, r_gtr, r_geq, r_eql, r_neq, r_add, r_sub, r_min2, r_max2, r_min3, r_max3, r_fa, r_iaS, r_iaA, r_ex2a, r_ex2b, r_ex3a, r_ex3b, r_ex3c, r_nc, r_keepE, Nat.zero_add, Nat.add_zero, Nat.mul_one, Int.toNat_natCast, toNat_sub1, toNat_add1, decide_true, decide_false, Bool.not_true, Bool.not_false, if_true, if_false, Bool.false_eq_true, reduceCtorEq]
  refine ⟨⟨q + 1, by omega, by go_num, ?_, q2⟩, by simp only [intOf]; omega⟩
  rw [fl_succ]
  have e : mt2 s i q = [((i : Int), 0, 2 + 2 * (q : Int) + i, 1 + (q : Int))] ++ [((i : Int), 1 + (s : Int) + q, 2 + 2 * (q : Int) + i, 0)] := rfl
  rw [e, ← List.append_assoc, ← List.append_assoc]
  exact o2

set_option maxRecDepth 100000 in
theorem r40_4 {w2 w : World} {b1 s q : Nat} {tv v : Value} {T : List Ent} {P : List Tile} {next : Value → Value → World → Prop}
    (h1 : w2.heap[b1]? = some (.cells #[.int .i64 s, tv] 51 (0, 0))) (hr : RdE w2 tv T) (hs : s ≤ 2) (hq : q < s) (hT : T.length = 2 * s) (hE : ∀ x ∈ T, -1 ≤ x.2.2 ∧ x.2.2 < s) (hP : TlAt w2.heap.size w v P) (hl : P.length ≤ 100) (k : Kp w2 w)
    (hn : ∀ v' w', TlAt w2.heap.size w' v' (P ++ mtB s T q) → Kp w2 w' → next v' (.int .i64 ((q : Int) + 1)) w') :
    S40L4 (pb b1) v (.int .i64 q) next w := by
  unfold S40L4
  refine ⟨fun t4 t9 wz => ∃ z : Nat, z ≤ 2 ∧ t9 = .int .i64 z ∧ TlAt w2.heap.size wz t4 (P ++ (List.range z).flatMap (mt3 s T q)) ∧ Kp w2 wz, fun _ t9 _ => 2 - (intOf t9).toNat, ⟨0, by omega, rfl, by simpa using hP, k⟩, ?_⟩
  rintro _ t4 _ wz ⟨z, hz, rfl, hPz, kz⟩
  by_cases hzl : z < 2
  case neg =>
    have hzl' : ¬ (z : Int) < 2 := by omega
    have ez : z = 2 := by omega
    subst ez
    simp (disch := omega) only [r_ln, r_pick, r_pickT, r_pickF, r_condT, r_condF, r_gdTT, r_gdFF, r_gdTF, r_gdFT, r_gqTT, r_gqFF, r_gqTF, r_gqFT, r_not, r_lss, r_leq, r_gtr, r_geq, r_eql, r_neq, r_add, r_sub, r_min2, r_max2, r_min3, r_max3, r_fa, r_iaS, r_iaA, r_ex2a, r_ex2b, r_ex3a, r_ex3b, r_ex3c, r_nc, r_keepE, Nat.zero_add, Nat.add_zero, Nat.mul_one, Int.toNat_natCast, toNat_sub1, toNat_add1, decide_true, decide_false, Bool.not_true, Bool.not_false, if_true, if_false, Bool.false_eq_true, reduceCtorEq, hzl']
    exact hn t4 wz hPz kz
  have hzl' : (z : Int) < 2 := by omega
  have hlz : ((List.range z).flatMap (mt3 s T q)).length ≤ z * 1 := fl_le _ 1 (fun z => mt3_len s T q z) z
  have cT : wz.cell? ⟨b1, 1, none⟩ = some tv := by rw [cell_row (block_below h1 kz)]; rfl
  simp (disch := omega) only [r_ln, r_pick, r_pickT, r_pickF, r_condT, r_condF, r_gdTT, r_gdFF, r_gdTF, r_gdFT, r_gqTT, r_gqFF, r_gqTF, r_gqFT, r_not, r_lss, r_leq, r_gtr, r_geq, r_eql, r_neq, r_add, r_sub, r_min2, r_max2, r_min3, r_max3, r_fa, r_iaS, r_iaA, r_ex2a, r_ex2b, r_ex3a, r_ex3b, r_ex3c, r_nc, r_keepE, Nat.zero_add, Nat.add_zero, Nat.mul_one, Int.toNat_natCast, toNat_sub1, toNat_add1, decide_true, decide_false, Bool.not_true, Bool.not_false, if_true, if_false, Bool.false_eq_true, reduceCtorEq, decide_eq_true hzl']
  refine r_join1 (fun v' w' => TlAt w2.heap.size w' v' (P ++ (List.range (z + 1)).flatMap (mt3 s T q)) ∧ Kp w2 w') (fun v' w' ⟨ho, kk⟩ => ?_) fun k' hk' => ?_
  · try simp (disch := omega) only [r_ln, r_pick, r_pickT, r_pickF, r_condT, r_condF, r_gdTT, r_gdFF, r_gdTF, r_gdFT, r_gqTT, r_gqFF, r_gqTF, r_gqFT, r_not, r_lss, r_leq, r_gtr, r_geq, r_eql, r_neq, r_add, r_sub, r_min2, r_max2, r_min3, r_max3, r_fa, r_iaS, r_iaA, r_ex2a, r_ex2b, r_ex3a, r_ex3b, r_ex3c, r_nc, r_keepE, Nat.zero_add, Nat.add_zero, Nat.mul_one, Int.toNat_natCast, toNat_sub1, toNat_add1, decide_true, decide_false, Bool.not_true, Bool.not_false, if_true, if_false, Bool.false_eq_true, reduceCtorEq]
    exact ⟨⟨z + 1, by omega, by go_num, ho, kk⟩, by simp only [intOf]; omega⟩
  have hlt : 2 * q + z < T.length := by omega
  obtain ⟨x, hx⟩ : ∃ x, T[2 * q + z]? = some x := ⟨_, List.getElem?_eq_getElem hlt⟩
  have hxE := hE x (List.mem_of_getElem? hx)
  have hm3 : mt3 s T q z = if x.2.2 < 0 then [] else if x.2.1 = true then [(2 + 2 * (q : Int) + z, 1 + x.2.2, x.1, 0)] else [(2 + 2 * (q : Int) + z, 0, x.1, 1 + (s : Int) + x.2.2)] := by
    simp only [mt3, List.getD_eq_getElem?_getD, hx, Option.getD_some]
  obtain ⟨b, off, cap, etv, _, hld⟩ := RdE.ent (hr.kp kz) hx
  subst etv
  have e2 : (2 * (q : Int) + z).toNat = 2 * q + z := by omega
  simp (disch := omega) only [r_ln, r_pick, r_pickT, r_pickF, r_condT, r_condF, r_gdTT, r_gdFF, r_gdTF, r_gdFT, r_gqTT, r_gqFF, r_gqTF, r_gqFT, r_not, r_lss, r_leq, r_gtr, r_geq, r_eql, r_neq, r_add, r_sub, r_min2, r_max2, r_min3, r_max3, r_fa, r_iaS, r_iaA, r_ex2a, r_ex2b, r_ex3a, r_ex3b, r_ex3c, r_nc, r_keepE, Nat.zero_add, Nat.add_zero, Nat.mul_one, Int.toNat_natCast, toNat_sub1, toNat_add1, decide_true, decide_false, Bool.not_true, Bool.not_false, if_true, if_false, Bool.false_eq_true, reduceCtorEq, r_ld cT, r_mul, e2, hld]
  refine r_box fun b4 w4 e4 s4 h4 k4 => ?_
  refine r_stAll (n := 3) (ty := 102) (by kernel_rfl) rfl (by intro u hu; simp [Value.cells] at hu; rcases hu with rfl | rfl | rfl <;> rfl) h4 rfl fun w5 d5 t5 h5 => ?_
  have k5 : Kp wz w5 := Kp.of_chg k4 d5 fun i e => by omega
  have kz5 := Kp.trans kz k5
  have c0 : w5.cell? ⟨b4, 0, none⟩ = some (.int .i64 x.1) := by rw [cell_row h5]; rfl
  simp (disch := omega) only [r_ln, r_pick, r_pickT, r_pickF, r_condT, r_condF, r_gdTT, r_gdFF, r_gdTF, r_gdFT, r_gqTT, r_gqFF, r_gqTF, r_gqFT, r_not, r_lss, r_leq, r_gtr, r_geq, r_eql, r_neq, r_add, r_sub, r_min2, r_max2, r_min3, r_max3, r_fa, r_iaS, r_iaA, r_ex2a, r_ex2b, r_ex3a, r_ex3b, r_ex3c, r_nc, r_keepE, Nat.zero_add, Nat.add_zero, Nat.mul_one, Int.toNat_natCast, toNat_sub1, toNat_add1, decide_true, decide_false, Bool.not_true, Bool.not_false, if_true, if_false, Bool.false_eq_true, reduceCtorEq, r_ld c0, r_mul, bdA]
  refine r_box fun b6 w6 e6 s6 h6 k6 => ?_
  refine r_stAll (n := 4) (ty := 32) (by kernel_rfl) rfl (by intro u hu; simp [Value.cells] at hu; rcases hu with rfl | rfl | rfl | rfl <;> rfl) h6 rfl fun w7 d7 t7 h7 => ?_
  have k7 : Kp w5 w7 := Kp.of_chg k6 d7 fun i e => by omega
  have kz7 := Kp.trans kz5 k7
  have h57 := block_below h5 k7
  have c1 : w7.cell? ⟨b4, 1, none⟩ = some (.bool x.2.1) := by rw [cell_row h57]; rfl
  have c2 : w7.cell? ⟨b4, 2, none⟩ = some (.int .i64 x.2.2) := by rw [cell_row h57]; rfl
  have cS7 : w7.cell? ⟨b1, 0, none⟩ = some (.int .i64 s) := by rw [cell_row (block_below h1 kz7)]; rfl
  rw [fl_succ, hm3, ← List.append_assoc] at hk'
  by_cases g1 : x.2.2 < 0
  · simp (disch := omega) only [r_ln, r_pick, r_pickT, r_pickF, r_condT, r_condF, r_gdTT, r_gdFF, r_gdTF, r_gdFT, r_gqTT, r_gqFF, r_gqTF, r_gqFT, r_not, r_lss, r_leq, r_gtr, r_geq, r_eql, r_neq, r_add, r_sub, r_min2, r_max2, r_min3, r_max3, r_fa, r_iaS, r_iaA, r_ex2a, r_ex2b, r_ex3a, r_ex3b, r_ex3c, r_nc, r_keepE, Nat.zero_add, Nat.add_zero, Nat.mul_one, Int.toNat_natCast, toNat_sub1, toNat_add1, decide_true, decide_false, Bool.not_true, Bool.not_false, if_true, if_false, Bool.false_eq_true, reduceCtorEq, r_ld c2, decide_eq_true g1]
    refine hk' _ _ ⟨?_, kz7⟩
    rw [if_pos g1, List.append_nil]
    exact hPz.kp (Kp.trans k5 k7)
  rw [if_neg g1] at hk'
  simp (disch := omega) only [r_ln, r_pick, r_pickT, r_pickF, r_condT, r_condF, r_gdTT, r_gdFF, r_gdTF, r_gdFT, r_gqTT, r_gqFF, r_gqTF, r_gqFT, r_not, r_lss, r_leq, r_gtr, r_geq, r_eql, r_neq, r_add, r_sub, r_min2, r_max2, r_min3, r_max3, r_fa, r_iaS, r_iaA, r_ex2a, r_ex2b, r_ex3a, r_ex3b, r_ex3c, r_nc, r_keepE, Nat.zero_add, Nat.add_zero, Nat.mul_one, Int.toNat_natCast, toNat_sub1, toNat_add1, decide_true, decide_false, Bool.not_true, Bool.not_false, if_true, if_false, Bool.false_eq_true, reduceCtorEq, r_ld c2, g1, r_ld c1]
  have hP7 := hPz.kp (Kp.trans k5 k7)
  have h6b : w5.heap.size = b6 := by omega
  refine r_join0 (fun w' => Kp w2 w' ∧ TlAt w2.heap.size w' t4 (P ++ (List.range z).flatMap (mt3 s T q)) ∧ w'.heap[b6]? = some (.cells (if x.2.1 = true then #[.int .i64 (2 + 2 * (q : Int) + z), .int .i64 (1 + x.2.2), .int .i64 x.1, .int .i64 0] else #[.int .i64 (2 + 2 * (q : Int) + z), .int .i64 0, .int .i64 x.1, .int .i64 (1 + (s : Int) + x.2.2)]) 32 (0, 0))) (fun w' ⟨kk, ho, hb⟩ => ?_) fun k'' hk'' => ?_
  · rw [r_ldRow (n := 4) hb (by split <;> rfl)]
    cases hx1 : x.2.1 with
    | true =>
      rw [hx1] at hk'
      simp only [if_true]
      refine r_pushT (w1 := w2) (t := (2 + 2 * (q : Int) + z, 1 + x.2.2, x.1, 0)) ho (by simp only [List.length_append]; omega) kk fun v1 u1 o1 q1 => ?_
      exact hk' _ _ ⟨o1, q1⟩
    | false =>
      rw [hx1] at hk'
      simp only [Bool.false_eq_true, if_false]
      refine r_pushT (w1 := w2) (t := (2 + 2 * (q : Int) + z, 0, x.1, 1 + (s : Int) + x.2.2)) ho (by simp only [List.length_append]; omega) kk fun v1 u1 o1 q1 => ?_
      exact hk' _ _ ⟨o1, q1⟩
  have hst : ∀ (j : Nat) (y : Int), j < 4 → Kp w2 (w7.setCell ⟨b6, j, none⟩ (.int .i64 y)) ∧ TlAt w2.heap.size (w7.setCell ⟨b6, j, none⟩ (.int .i64 y)) t4 (P ++ (List.range z).flatMap (mt3 s T q)) := fun j y hj => by
    have hc : Chg (fun k => k = b6) w7 (w7.setCell ⟨b6, j, none⟩ (.int .i64 y)) := Chg.setCell _ _ rfl
    have := kz5.size
    refine ⟨Kp.of_chg kz7 hc fun i e => by omega, hP7.chg hc fun kk hkk e => ?_⟩
    have := (hPz.lt hkk).2
    have := k5.size
    omega
  cases hx1 : x.2.1 with
  | true =>
    simp (disch := omega) only [r_ln, r_pick, r_pickT, r_pickF, r_condT, r_condF, r_gdTT, r_gdFF, r_gdTF, r_gdFT, r_gqTT, r_gqFF, r_gqTF, r_gqFT, r_not, r_lss, r_leq, r_gtr, r_geq, r_eql, r_neq, r_add, r_sub, r_min2, r_max2, r_min3, r_max3, r_fa, r_iaS, r_iaA, r_ex2a, r_ex2b, r_ex3a, r_ex3b, r_ex3c, r_nc, r_keepE, Nat.zero_add, Nat.add_zero, Nat.mul_one, Int.toNat_natCast, toNat_sub1, toNat_add1, decide_true, decide_false, Bool.not_true, Bool.not_false, if_true, if_false, Bool.false_eq_true, reduceCtorEq, r_ld c2]
    rw [st3 (v := .int .i64 0) (by rw [cell_row h7]; rfl) (frozen_row h7)]
    refine hk'' _ ⟨(hst 1 _ (by omega)).1, (hst 1 _ (by omega)).2, ?_⟩
    rw [setCell_block (o := 1) h7 rfl, hx1]
    rfl
  | false =>
    simp (disch := omega) only [r_ln, r_pick, r_pickT, r_pickF, r_condT, r_condF, r_gdTT, r_gdFF, r_gdTF, r_gdFT, r_gqTT, r_gqFF, r_gqTF, r_gqFT, r_not, r_lss, r_leq, r_gtr, r_geq, r_eql, r_neq, r_add, r_sub, r_min2, r_max2, r_min3, r_max3, r_fa, r_iaS, r_iaA, r_ex2a, r_ex2b, r_ex3a, r_ex3b, r_ex3c, r_nc, r_keepE, Nat.zero_add, Nat.add_zero, Nat.mul_one, Int.toNat_natCast, toNat_sub1, toNat_add1, decide_true, decide_false, Bool.not_true, Bool.not_false, if_true, if_false, Bool.false_eq_true, reduceCtorEq, r_ld c2, r_ld cS7]
    rw [st3 (v := .int .i64 0) (by rw [cell_row h7]; rfl) (frozen_row h7)]
    refine hk'' _ ⟨(hst 3 _ (by omega)).1, (hst 3 _ (by omega)).2, ?_⟩
    rw [setCell_block (o := 3) h7 rfl, hx1]
    rfl

end Go.Proofs.Ytgalbokmgffhkaa

/- Contract: Machine of the specification. -/
namespace Go.Proofs.Ytgalbokmgffhkaa
open Go.Lf Go.RowKit Go.Wg

set_option maxRecDepth 100000 in
theorem r40_3 {w2 w : World} {b1 s : Nat} {tv v : Value} {T : List Ent} {P : List Tile} {R : Ending → World → Prop}
    (h1 : w2.heap[b1]? = some (.cells #[.int .i64 s, tv] 51 (0, 0))) (hr : RdE w2 tv T) (hs : s ≤ 2) (hT : T.length = 2 * s) (hE : ∀ x ∈ T, -1 ≤ x.2.2 ∧ x.2.2 < s) (hP : TlAt w2.heap.size w v P) (hl : P.length ≤ 50) (k : Kp w2 w)
    (hn : ∀ v' w', TlAt w2.heap.size w' v' (P ++ (List.range s).flatMap (mtB s T)) → Kp w2 w' → R (.returned (.tuple #[v', .int .i64 0])) w') :
    S40L3 (pb b1) v R w := by
  unfold S40L3
  refine ⟨fun t4 t8 wz => ∃ q : Nat, q ≤ s ∧ t8 = .int .i64 q ∧ TlAt w2.heap.size wz t4 (P ++ (List.range q).flatMap (mtB s T)) ∧ Kp w2 wz, fun _ t8 _ => s - (intOf t8).toNat, ⟨0, by omega, rfl, by simpa using hP, k⟩, ?_⟩
  rintro _ t4 _ wz ⟨q, hq, rfl, hPq, kz⟩
  have cS : wz.cell? ⟨b1, 0, none⟩ = some (.int .i64 s) := by rw [cell_row (block_below h1 kz)]; rfl
  have hlq : ((List.range q).flatMap (mtB s T)).length ≤ q * 2 := fl_le _ 2 (fun q => mtB_le s T q) q
  by_cases hql : q < s
  case neg =>
    have hql' : ¬ (q : Int) < (s : Int) := by omega
    have eq : q = s := by omega
    subst eq
    simp (disch := omega) only [r_ln, r_pick, r_pickT, r_pickF, r_condT, r_condF, r_gdTT, r_gdFF, r_gdTF, r_gdFT, r_gqTT, r_gqFF, r_gqTF, r_gqFT, r_not, r_lss, r_leq, r_gtr, r_geq, r_eql, r_neq, r_add, r_sub, r_min2, r_max2, r_min3, r_max3, r_fa, r_iaS, r_iaA, r_ex2a, r_ex2b, r_ex3a, r_ex3b, r_ex3c, r_nc, r_keepE, Nat.zero_add, Nat.add_zero, Nat.mul_one, Int.toNat_natCast, toNat_sub1, toNat_add1, decide_true, decide_false, Bool.not_true, Bool.not_false, if_true, if_false, Bool.false_eq_true, reduceCtorEq, r_ld cS, hql']
    exact hn t4 wz hPq kz
  have hql' : (q : Int) < (s : Int) := by omega
  simp (disch := omega) only [r_ln, r_pick, r_pickT, r_pickF, r_condT, r_condF, r_gdTT, r_gdFF, r_gdTF, r_gdFT, r_gqTT, r_gqFF, r_gqTF, r_gqFT, r_not, r_lss, r_leq, r_gtr, r_geq, r_eql, r_neq, r_add, r_sub, r_min2, r_max2, r_min3, r_max3, r_fa, r_iaS, r_iaA, r_ex2a, r_ex2b, r_ex3a, r_ex3b, r_ex3c, r_nc, r_keepE, Nat.zero_add, Nat.add_zero, Nat.mul_one, Int.toNat_natCast, toNat_sub1, toNat_add1, decide_true, decide_false, Bool.not_true, Bool.not_false, if_true, if_false, Bool.false_eq_true, reduceCtorEq, r_ld cS, decide_eq_true hql']
  refine r40_4 h1 hr hs hql hT hE hPq (by simp only [List.length_append]; omega) kz fun v' w' ho kk => ?_
  refine ⟨⟨q + 1, by omega, by go_num, ?_, kk⟩, by simp only [intOf]; omega⟩
  rw [fl_succ, ← List.append_assoc]
  exact ho

set_option maxRecDepth 100000 in
theorem r40_1 {w2 w : World} {b1 s : Nat} {tv v : Value} {T : List Ent} {P : List Tile} {R : Ending → World → Prop}
    (h1 : w2.heap[b1]? = some (.cells #[.int .i64 s, tv] 51 (0, 0))) (hr : RdE w2 tv T) (hs : s ≤ 2) (hT : T.length = 2 * s) (hE : ∀ x ∈ T, -1 ≤ x.2.2 ∧ x.2.2 < s) (hP : TlAt w2.heap.size w v P) (hl : P.length ≤ 20) (k : Kp w2 w)
    (hn : ∀ v' w', TlAt w2.heap.size w' v' (P ++ (List.range 2).flatMap (mtA s) ++ (List.range s).flatMap (mtB s T)) → Kp w2 w' → R (.returned (.tuple #[v', .int .i64 0])) w') :
    S40L1 (pb b1) v R w := by
  unfold S40L1
  refine ⟨fun t4 t6 wz => ∃ i : Nat, i ≤ 2 ∧ t6 = .int .i64 i ∧ TlAt w2.heap.size wz t4 (P ++ (List.range i).flatMap (mtA s)) ∧ Kp w2 wz, fun _ t6 _ => 2 - (intOf t6).toNat, ⟨0, by omega, rfl, by simpa using hP, k⟩, ?_⟩
  rintro _ t4 _ wz ⟨i, hi, rfl, hPi, kz⟩
  have hli : ((List.range i).flatMap (mtA s)).length ≤ i * 4 := fl_le _ 4 (fun q => by have := mtA_le s q; omega) i
  by_cases hil : i < 2
  case neg =>
    have hil' : ¬ (i : Int) < 2 := by omega
    have ei : i = 2 := by omega
    subst ei
    simp (disch := omega) only [r_ln, r_pick, r_pickT, r_pickF, r_condT, r_condF, r_gdTT, r_gdFF, r_gdTF, r_gdFT, r_gqTT, r_gqFF, r_gqTF, r_gqFT, r_not, r_lss, r_leq, r_gtr, r_geq, r_eql, r_neq, r_add, r_sub, r_min2, r_max2, r_min3, r_max3, r_fa, r_iaS, r_iaA, r_ex2a, r_ex2b, r_ex3a, r_ex3b, r_ex3c, r_nc, r_keepE, Nat.zero_add, Nat.add_zero, Nat.mul_one, Int.toNat_natCast, toNat_sub1, toNat_add1, decide_true, decide_false, Bool.not_true, Bool.not_false, if_true, if_false, Bool.false_eq_true, reduceCtorEq, hil']
    exact r40_3 h1 hr hs hT hE hPi (by simp only [List.length_append]; omega) kz hn
  have hil' : (i : Int) < 2 := by omega
  simp (disch := omega) only [r_ln, r_pick, r_pickT, r_pickF, r_condT, r_condF, r_gdTT, r_gdFF, r_gdTF, r_gdFT, r_gqTT, r_gqFF, r_gqTF, r_gqFT, r_not, r_lss, r_leq, r_gtr, r_geq, r_eql, r_neq, r_add, r_sub, r_min2, r_max2, r_min3, r_max3, r_fa, r_iaS, r_iaA, r_ex2a, r_ex2b, r_ex3a, r_ex3b, r_ex3c, r_nc, r_keepE, Nat.zero_add, Nat.add_zero, Nat.mul_one, Int.toNat_natCast, toNat_sub1, toNat_add1, decide_true, decide_false, Bool.not_true, Bool.not_false, if_true, if_false, Bool.false_eq_true, reduceCtorEq, decide_eq_true hil']
  refine r40_2 h1 hs hil hPi (by simp only [List.length_append]; omega) kz fun v' w' ho kk => ?_
  refine ⟨⟨i + 1, by omega, by go_num, ?_, kk⟩, by simp only [intOf]; omega⟩
  rw [fl_succ, ← List.append_assoc]
  exact ho

set_option maxRecDepth 100000 in
theorem r40_0 {w2 : World} {b1 s : Nat} {tv : Value} {T : List Ent} {R : Ending → World → Prop}
    (h1 : w2.heap[b1]? = some (.cells #[.int .i64 s, tv] 51 (0, 0))) (hr : RdE w2 tv T) (hs : s ≤ 2) (hT : T.length = 2 * s) (hE : ∀ x ∈ T, -1 ≤ x.2.2 ∧ x.2.2 < s)
    (hn : ∀ v' w', TlAt w2.heap.size w' v' (machT s T) → Kp w2 w' → R (.returned (.tuple #[v', .int .i64 0])) w') :
    S40L0 (pb b1) R w2 := by
  unfold S40L0
  refine ⟨fun t4 t5 wr => ∃ i : Nat, i ≤ 2 ∧ t5 = .int .i64 i ∧ TlAt w2.heap.size wr t4 ((List.range i).map f1) ∧ Kp w2 wr, fun _ t5 _ => 2 - (intOf t5).toNat, ⟨0, by omega, rfl, RecAt.nil, Kp.refl _⟩, ?_⟩
  rintro _ t4 _ wr ⟨i, hi, rfl, hP, kr⟩
  by_cases hlt : i < 2
  case pos =>
    have hlt' : (i : Int) < 2 := by omega
    simp (disch := omega) only [r_ln, r_pick, r_pickT, r_pickF, r_condT, r_condF, r_gdTT, r_gdFF, r_gdTF, r_gdFT, r_gqTT, r_gqFF, r_gqTF, r_gqFT, r_not, r_lss, r_leq, r_gtr, r_geq, r_eql, r_neq, r_add, r_sub, r_min2, r_max2, r_min3, r_max3, r_fa, r_iaS, r_iaA, r_ex2a, r_ex2b, r_ex3a, r_ex3b, r_ex3c, r_nc, r_keepE, Nat.zero_add, Nat.add_zero, Nat.mul_one, Int.toNat_natCast, toNat_sub1, toNat_add1, decide_true, decide_false, Bool.not_true, Bool.not_false, if_true, if_false, Bool.false_eq_true, reduceCtorEq, decide_eq_true hlt', bdA]
    refine r_pushT (w1 := w2) (t := f1 i) hP (by simp; omega) kr fun v' w' ho kk => ?_
    try simp (disch := omega) only [r_ln, r_pick, r_pickT, r_pickF, r_condT, r_condF, r_gdTT, r_gdFF, r_gdTF, r_gdFT, r_gqTT, r_gqFF, r_gqTF, r_gqFT, r_not, r_lss, r_leq, r_gtr, r_geq, r_eql, r_neq, r_add, r_sub, r_min2, r_max2, r_min3, r_max3, r_fa, r_iaS, r_iaA, r_ex2a, r_ex2b, r_ex3a, r_ex3b, r_ex3c, r_nc, r_keepE, Nat.zero_add, Nat.add_zero, Nat.mul_one, Int.toNat_natCast, toNat_sub1, toNat_add1, decide_true, decide_false, Bool.not_true, Bool.not_false, if_true, if_false, Bool.false_eq_true, reduceCtorEq]
    refine ⟨⟨i + 1, by omega, by go_num, ?_, kk⟩, by simp only [intOf]; omega⟩
    rw [List.range_succ, List.map_append]
    exact ho
  have hlt' : ¬ (i : Int) < 2 := by omega
  have ei : i = 2 := by omega
  subst ei
  rw [← mt1_eq] at hP
  simp (disch := omega) only [r_ln, r_pick, r_pickT, r_pickF, r_condT, r_condF, r_gdTT, r_gdFF, r_gdTF, r_gdFT, r_gqTT, r_gqFF, r_gqTF, r_gqFT, r_not, r_lss, r_leq, r_gtr, r_geq, r_eql, r_neq, r_add, r_sub, r_min2, r_max2, r_min3, r_max3, r_fa, r_iaS, r_iaA, r_ex2a, r_ex2b, r_ex3a, r_ex3b, r_ex3c, r_nc, r_keepE, Nat.zero_add, Nat.add_zero, Nat.mul_one, Int.toNat_natCast, toNat_sub1, toNat_add1, decide_true, decide_false, Bool.not_true, Bool.not_false, if_true, if_false, Bool.false_eq_true, reduceCtorEq, hlt']
  exact r40_1 h1 hr hs hT hE hP (by show 2 ≤ 20; omega) kr hn

set_option maxRecDepth 100000 in
theorem refmachine_calls {S : Int} {tv : Value} {T : List Ent} (w : World) (hr : RdE w tv T) (hT : T.length ≤ 1000) : Calls Try.prog 40 #[macV S tv] w fun e w' => Kp w w' ∧ MacPost S T w.heap.size w' e := by
  obtain ⟨ta, tcap, rfl, _⟩ := hr.len
  refine lift40 ?_
  unfold S40
  refine r_box fun b1 w1 e1 s1 h1 k1 => ?_
  have h1' : w1.heap[b1]? = some (.cells #[.int .i64 S, .slice ta T.length tcap] 51 (0, 0)) := h1
  rw [r_ldRow (n := 2) h1' rfl]
  refine r_use fok93 (valid2_calls (T := T) w1 (hr.kp k1) hT) rfl ?_
  rintro _ w2 ⟨rfl, k2⟩
  refine ⟨_, rfl, ?_⟩
  have k02 := Kp.trans k1 k2
  have h12 := block_below h1' k2
  cases hm : macB S T with
  | false =>
    simp (disch := omega) only [r_ln, r_pick, r_pickT, r_pickF, r_condT, r_condF, r_gdTT, r_gdFF, r_gdTF, r_gdFT, r_gqTT, r_gqFF, r_gqTF, r_gqFT, r_not, r_lss, r_leq, r_gtr, r_geq, r_eql, r_neq, r_add, r_sub, r_min2, r_max2, r_min3, r_max3, r_fa, r_iaS, r_iaA, r_ex2a, r_ex2b, r_ex3a, r_ex3b, r_ex3c, r_nc, r_keepE, Nat.zero_add, Nat.add_zero, Nat.mul_one, Int.toNat_natCast, toNat_sub1, toNat_add1, decide_true, decide_false, Bool.not_true, Bool.not_false, if_true, if_false, Bool.false_eq_true, reduceCtorEq]
    exact ⟨k02, .inl ⟨hm, rfl⟩⟩
  | true =>
  obtain ⟨s, rfl, hs1, hs2, hTl, hTe⟩ := mac_of hm
  simp (disch := omega) only [r_ln, r_pick, r_pickT, r_pickF, r_condT, r_condF, r_gdTT, r_gdFF, r_gdTF, r_gdFT, r_gqTT, r_gqFF, r_gqTF, r_gqFT, r_not, r_lss, r_leq, r_gtr, r_geq, r_eql, r_neq, r_add, r_sub, r_min2, r_max2, r_min3, r_max3, r_fa, r_iaS, r_iaA, r_ex2a, r_ex2b, r_ex3a, r_ex3b, r_ex3c, r_nc, r_keepE, Nat.zero_add, Nat.add_zero, Nat.mul_one, Int.toNat_natCast, toNat_sub1, toNat_add1, decide_true, decide_false, Bool.not_true, Bool.not_false, if_true, if_false, Bool.false_eq_true, reduceCtorEq]
  refine r40_0 (T := T) h12 (hr.kp k02) hs2 hTl (fun x hx => (hTe x hx).2) fun v' w' ho kk => ?_
  exact ⟨Kp.trans k02 kk, .inr ⟨hm, v', rfl, ho.down k02.size⟩⟩

end Go.Proofs.Ytgalbokmgffhkaa

/- Contract: Machine of the program, loop by loop. -/
namespace Go.Proofs.Ytgalbokmgffhkaa
open Go.Lf Go.RowKit Go.Wg

set_option maxRecDepth 100000 in
theorem bs22_2' (a b c d a' b' c' d' : Int) (w : World) (K : Value → World → Prop) : bsW Try.prog 22 2 [(0, tlV (a, b, c, d)), (1, tlV (a', b', c', d'))] w K = K (.slice (some ⟨w.heap.size, 0, none⟩) 2 2) (w.alloc (.cells #[.int .i64 a, .int .i64 b, .int .i64 c, .int .i64 d, .int .i64 a', .int .i64 b', .int .i64 c', .int .i64 d'] 32)) := by kernel_rfl
theorem bs22_2 (t u : Tile) (w : World) (K : Value → World → Prop) : bsW Try.prog 22 2 [(0, tlV t), (1, tlV u)] w K = K (.slice (some ⟨w.heap.size, 0, none⟩) 2 2) (w.alloc (.cells (tlC t ++ tlC u).toArray 32)) := bs22_2' _ _ _ _ _ _ _ _ w K

theorem bdD (x y z : Int) (K : Value → Prop) : bdQ Try.prog 32 [(0, .int .i64 x), (1, .int .i64 y), (2, .int .i64 z)] K = K (tlV (x, y, z, 0)) := by kernel_rfl

set_option maxRecDepth 100000 in
/-- append(v, x, y) at tiles. -/
theorem r_push2T {w1 w : World} {v : Value} {P : List Tile} {t u : Tile} {K : Value → World → Prop} (h : TlAt w1.heap.size w v P) (hn : P.length + 2 ≤ 1000000) (h1 : Kp w1 w)
    (hk : ∀ v' w', TlAt w1.heap.size w' v' (P ++ [t] ++ [u]) → Kp w1 w' → K v' w') :
    bsW Try.prog 22 2 [(0, tlV t), (1, tlV u)] w fun s w => semW Try.prog (apS [22, 22] 22 [v, s]) w K := by
  rw [bs22_2]
  have T := slt22
  obtain ⟨i, z, i1, i2, i3, i4, i5⟩ := T.info
  have hlen : (tlC t ++ tlC u).length = 2 * 4 := rfl
  have hone : ∀ x ∈ tlC t ++ tlC u, x.oneCell' = true := fun x hx => by
    rcases List.mem_append.1 hx with h | h
    · exact tlC_one t x h
    · exact tlC_one u x h
  obtain ⟨v', w', hr, ho, hg, _, hat⟩ := run_append_own_at (P := Try.prog) (w := w.alloc (.cells (tlC t ++ tlC u).toArray 32)) w1.heap.size 22 22 32 i z 4 32 T.und i1 i2 i3 i4 i5 T.pos v P.length (recCells tlC P) (RecAt.kp h (below_alloc _)) ⟨w.heap.size, 0, none⟩ 2 2 (tlC t ++ tlC u) hlen (cells_at_row (heap_alloc_new w _)) hone (by unfold maxLen; omega) (by omega) (by have := h1.size; show _ ≤ (w.heap.push _).size; simp; omega)
  refine semW_of_run (by simp [apS, hr]) (hk v' w' ?_ ?_)
  · unfold TlAt RecAt
    have e : recCells tlC (P ++ [t] ++ [u]) = recCells tlC P ++ (tlC t ++ tlC u) := by simp [recCells]
    rw [e, List.length_append, List.length_append]
    exact ho
  · exact Kp.of_chg h1 ((Chg.of_kp (S := fun k => v.ownBlock = some k) (below_alloc _)).trans (Chg.of_grown hg fun k hk => hk)) fun k e => (h.lt e).1

set_option maxRecDepth 100000 in
/-- The same, where the new tile is kept. -/
theorem r_pushTK {w1 w : World} {v : Value} {P : List Tile} {t : Tile} {K : Value → World → Prop} (h : TlAt w1.heap.size w v P) (hn : P.length + 1 ≤ 1000000) (h1 : Kp w1 w)
    (hk : ∀ v' w', TlAt w1.heap.size w' v' (P ++ [t]) → Kp w1 w' → K v' w') :
    bsW Try.prog 22 1 [(0, tlV t)] w <| keepB w fun s w => semW Try.prog (apS [22, 22] 22 [v, s]) w K := by
  obtain ⟨a, b, c, d⟩ := t
  have := r_pushT h hn h1 hk
  rw [bs22] at this ⊢
  exact ⟨below_alloc _, this⟩

theorem call90 {x y : Int} {w : World} {K : Value → World → Prop} (h0 : 0 ≤ x ∧ x ≤ 100) (h1 : 0 ≤ y ∧ y ≤ 100) (hk : K (.int .i64 (2 + 2 * x + y)) w) : callW Try.prog (.func (.func 90) #[] #[]) [.int .i64 x, .int .i64 y] w K := by
  have hc : Calls Try.prog 90 #[.int .i64 x, .int .i64 y] w fun r w' => r = .returned (.int .i64 (2 + 2 * x + y)) ∧ w' = w := by
    refine lift90 ?_
    unfold S90
    simp (disch := omega) only [r_ln, r_pick, r_pickT, r_pickF, r_condT, r_condF, r_gdTT, r_gdFF, r_gdTF, r_gdFT, r_gqTT, r_gqFF, r_gqTF, r_gqFT, r_not, r_lss, r_leq, r_gtr, r_geq, r_eql, r_neq, r_add, r_sub, r_min2, r_max2, r_min3, r_max3, r_fa, r_iaS, r_iaA, r_ex2a, r_ex2b, r_ex3a, r_ex3b, r_ex3c, r_nc, r_keepE, Nat.zero_add, Nat.add_zero, Nat.mul_one, Int.toNat_natCast, toNat_sub1, toNat_add1, decide_true, decide_false, Bool.not_true, Bool.not_false, if_true, if_false, Bool.false_eq_true, reduceCtorEq, r_mul]
    exact ⟨by first | rfl | trivial, by first | rfl | trivial⟩
  refine r_use fok90 hc rfl ?_
  rintro _ w2 ⟨rfl, rfl⟩
  exact ⟨_, rfl, hk⟩
theorem call91 {x : Int} {w : World} {K : Value → World → Prop} (h0 : 0 ≤ x ∧ x ≤ 100) (hk : K (.int .i64 (1 + x)) w) : callW Try.prog (.func (.func 91) #[] #[]) [.int .i64 x] w K := by
  have hc : Calls Try.prog 91 #[.int .i64 x] w fun r w' => r = .returned (.int .i64 (1 + x)) ∧ w' = w := by
    refine lift91 ?_
    unfold S91
    simp (disch := omega) only [r_ln, r_pick, r_pickT, r_pickF, r_condT, r_condF, r_gdTT, r_gdFF, r_gdTF, r_gdFT, r_gqTT, r_gqFF, r_gqTF, r_gqFT, r_not, r_lss, r_leq, r_gtr, r_geq, r_eql, r_neq, r_add, r_sub, r_min2, r_max2, r_min3, r_max3, r_fa, r_iaS, r_iaA, r_ex2a, r_ex2b, r_ex3a, r_ex3b, r_ex3c, r_nc, r_keepE, Nat.zero_add, Nat.add_zero, Nat.mul_one, Int.toNat_natCast, toNat_sub1, toNat_add1, decide_true, decide_false, Bool.not_true, Bool.not_false, if_true, if_false, Bool.false_eq_true, reduceCtorEq]
    exact ⟨by first | rfl | trivial, by first | rfl | trivial⟩
  refine r_use fok91 hc rfl ?_
  rintro _ w2 ⟨rfl, rfl⟩
  exact ⟨_, rfl, hk⟩
theorem call92 {x s : Int} {b : Nat} {w : World} {K : Value → World → Prop} (hc : w.cell? ⟨b, 0, none⟩ = some (.int .i64 s)) (h0 : 0 ≤ x ∧ x ≤ 100) (h1 : 0 ≤ s ∧ s ≤ 100) (hk : K (.int .i64 (1 + s + x)) w) : callW Try.prog (.func (.func 92) #[] #[pb b]) [.int .i64 x] w K := by
  have hc : Calls Try.prog 92 #[.int .i64 x, pb b] w fun r w' => r = .returned (.int .i64 (1 + s + x)) ∧ w' = w := by
    refine lift92 ?_
    unfold S92
    simp (disch := omega) only [r_ln, r_pick, r_pickT, r_pickF, r_condT, r_condF, r_gdTT, r_gdFF, r_gdTF, r_gdFT, r_gqTT, r_gqFF, r_gqTF, r_gqFT, r_not, r_lss, r_leq, r_gtr, r_geq, r_eql, r_neq, r_add, r_sub, r_min2, r_max2, r_min3, r_max3, r_fa, r_iaS, r_iaA, r_ex2a, r_ex2b, r_ex3a, r_ex3b, r_ex3c, r_nc, r_keepE, Nat.zero_add, Nat.add_zero, Nat.mul_one, Int.toNat_natCast, toNat_sub1, toNat_add1, decide_true, decide_false, Bool.not_true, Bool.not_false, if_true, if_false, Bool.false_eq_true, reduceCtorEq, r_ld hc]
    exact ⟨by first | rfl | trivial, by first | rfl | trivial⟩
  refine r_use fok92 hc rfl ?_
  rintro _ w2 ⟨rfl, rfl⟩
  exact ⟨_, rfl, hk⟩

set_option maxRecDepth 100000 in
theorem r39_2 {w2 w : World} {b1 s i : Nat} {tv v : Value} {P : List Tile} {next : Value → Value → World → Prop}
    (h1 : w2.heap[b1]? = some (.cells #[.int .i64 s, tv] 51 (0, 0))) (hs : s ≤ 2) (hi : i < 2) (hP : TlAt w2.heap.size w v P) (hl : P.length ≤ 100) (k : Kp w2 w)
    (hn : ∀ v' w', TlAt w2.heap.size w' v' (P ++ mtA s i) → Kp w2 w' → next v' (.int .i64 ((i : Int) + 1)) w') :
    S39L2 (pb b1) v (.int .i64 i) (.int .i64 s) next w := by
  unfold S39L2
  refine ⟨fun t4 t7 wz => ∃ q : Nat, q ≤ s ∧ t7 = .int .i64 q ∧ TlAt w2.heap.size wz t4 (P ++ (List.range q).flatMap (mt2 s i)) ∧ Kp w2 wz, fun _ t7 _ => s - (intOf t7).toNat, ⟨0, by omega, rfl, by simpa using hP, k⟩, ?_⟩
  rintro _ t4 _ wz ⟨q, hq, rfl, hPq, kz⟩
  have cS : wz.cell? ⟨b1, 0, none⟩ = some (.int .i64 s) := by rw [cell_row (block_below h1 kz)]; rfl
  have hlq : ((List.range q).flatMap (mt2 s i)).length ≤ q * 2 := fl_le _ 2 (fun q => by rw [mt2_len]; omega) q
  by_cases hql : q < s
  case neg =>
    have hql' : ¬ (q : Int) < (s : Int) := by omega
    have eq : q = s := by omega
    subst eq
    simp (disch := omega) only [r_ln, r_pick, r_pickT, r_pickF, r_condT, r_condF, r_gdTT, r_gdFF, r_gdTF, r_gdFT, r_gqTT, r_gqFF, r_gqTF, r_gqFT, r_not, r_lss, r_leq, r_gtr, r_geq, r_eql, r_neq, r_add, r_sub, r_min2, r_max2, r_min3, r_max3, r_fa, r_iaS, r_iaA, r_ex2a, r_ex2b, r_ex3a, r_ex3b, r_ex3c, r_nc, r_keepE, Nat.zero_add, Nat.add_zero, Nat.mul_one, Int.toNat_natCast, toNat_sub1, toNat_add1, decide_true, decide_false, Bool.not_true, Bool.not_false, if_true, if_false, Bool.false_eq_true, reduceCtorEq, hql']
    exact hn t4 wz hPq kz
  have hql' : (q : Int) < (s : Int) := by omega
  simp (disch := omega) only [r_ln, r_pick, r_pickT, r_pickF, r_condT, r_condF, r_gdTT, r_gdFF, r_gdTF, r_gdFT, r_gqTT, r_gqFF, r_gqTF, r_gqFT, r_not, r_lss, r_leq, r_gtr, r_geq, r_eql, r_neq, r_add, r_sub, r_min2, r_max2, r_min3, r_max3, r_fa, r_iaS, r_iaA, r_ex2a, r_ex2b, r_ex3a, r_ex3b, r_ex3c, r_nc, r_keepE, Nat.zero_add, Nat.add_zero, Nat.mul_one, Int.toNat_natCast, toNat_sub1, toNat_add1, decide_true, decide_false, Bool.not_true, Bool.not_false, if_true, if_false, Bool.false_eq_true, reduceCtorEq, decide_eq_true hql']
  refine call90 (by omega) (by omega) ?_
  refine call91 (by omega) ?_
  rw [bdB]
  refine call92 cS (by omega) (by omega) ?_
  refine call90 (by omega) (by omega) ?_
  rw [bdD]
  refine r_push2T (w1 := w2) hPq (by simp only [List.length_append]; omega) kz fun v2 u2 o2 q2 => ?_
  try simp (disch := omega) only [r_ln, r_pick, r_pickT, r_pickF, r_condT, r_condF, r_gdTT, r_gdFF, r_gdTF, r_gdFT, r_gqTT, r_gqFF, r_gqTF, r_gqFT, r_not, r_lss, r_leq, r_gtr, r_geq, r_eql, r_neq, r_add, r_sub, r_min2, r_max2, r_min3, r_max3, r_fa, r_iaS, r_iaA, r_ex2a, r_ex2b, r_ex3a, r_ex3b, r_ex3c, r_nc, r_keepE, Nat.zero_add, Nat.add_zero, Nat.mul_one, Int.toNat_natCast, toNat_sub1, toNat_add1, decide_true, decide_false, Bool.not_true, Bool.not_false, if_true, if_false, Bool.false_eq_true, reduceCtorEq]
  refine ⟨⟨q + 1, by omega, by go_num, ?_, q2⟩, by simp only [intOf]; omega⟩
  rw [fl_succ]
  have e : mt2 s i q = [((i : Int), 0, 2 + 2 * (q : Int) + i, 1 + (q : Int))] ++ [((i : Int), 1 + (s : Int) + q, 2 + 2 * (q : Int) + i, 0)] := rfl
  rw [e, ← List.append_assoc, ← List.append_assoc]
  exact o2


set_option maxRecDepth 100000 in
theorem r39_4 {w2 w : World} {b1 s q : Nat} {tv v : Value} {T : List Ent} {P : List Tile} {next : Value → Value → World → Prop}
    (h1 : w2.heap[b1]? = some (.cells #[.int .i64 s, tv] 51 (0, 0))) (hr : RdE w2 tv T) (hs : s ≤ 2) (hq : q < s) (hT : T.length = 2 * s) (hE : ∀ x ∈ T, -1 ≤ x.2.2 ∧ x.2.2 < s) (hP : TlAt w2.heap.size w v P) (hl : P.length ≤ 100) (k : Kp w2 w)
    (hn : ∀ v' w', TlAt w2.heap.size w' v' (P ++ mtB s T q) → Kp w2 w' → next v' (.int .i64 ((q : Int) + 1)) w') :
    S39L4 (pb b1) v (.int .i64 q) next w := by
  unfold S39L4
  refine ⟨fun t4 t9 wz => ∃ z : Nat, z ≤ 2 ∧ t9 = .int .i64 z ∧ TlAt w2.heap.size wz t4 (P ++ (List.range z).flatMap (mt3 s T q)) ∧ Kp w2 wz, fun _ t9 _ => 2 - (intOf t9).toNat, ⟨0, by omega, rfl, by simpa using hP, k⟩, ?_⟩
  rintro _ t4 _ wz ⟨z, hz, rfl, hPz, kz⟩
  by_cases hzl : z < 2
  case neg =>
    have hzl' : ¬ (z : Int) < 2 := by omega
    have ez : z = 2 := by omega
    subst ez
    simp (disch := omega) only [r_ln, r_pick, r_pickT, r_pickF, r_condT, r_condF, r_gdTT, r_gdFF, r_gdTF, r_gdFT, r_gqTT, r_gqFF, r_gqTF, r_gqFT, r_not, r_lss, r_leq, r_gtr, r_geq, r_eql, r_neq, r_add, r_sub, r_min2, r_max2, r_min3, r_max3, r_fa, r_iaS, r_iaA, r_ex2a, r_ex2b, r_ex3a, r_ex3b, r_ex3c, r_nc, r_keepE, Nat.zero_add, Nat.add_zero, Nat.mul_one, Int.toNat_natCast, toNat_sub1, toNat_add1, decide_true, decide_false, Bool.not_true, Bool.not_false, if_true, if_false, Bool.false_eq_true, reduceCtorEq, hzl']
    exact hn t4 wz hPz kz
  have hzl' : (z : Int) < 2 := by omega
  have hlz : ((List.range z).flatMap (mt3 s T q)).length ≤ z * 1 := fl_le _ 1 (fun z => mt3_len s T q z) z
  have cT : wz.cell? ⟨b1, 1, none⟩ = some tv := by rw [cell_row (block_below h1 kz)]; rfl
  have hlt : 2 * q + z < T.length := by omega
  obtain ⟨x, hx⟩ : ∃ x, T[2 * q + z]? = some x := ⟨_, List.getElem?_eq_getElem hlt⟩
  have hxE := hE x (List.mem_of_getElem? hx)
  have hm3 : mt3 s T q z = if x.2.2 < 0 then [] else if x.2.1 = true then [(2 + 2 * (q : Int) + z, 1 + x.2.2, x.1, 0)] else [(2 + 2 * (q : Int) + z, 0, x.1, 1 + (s : Int) + x.2.2)] := by
    simp only [mt3, List.getD_eq_getElem?_getD, hx, Option.getD_some]
  obtain ⟨b, off, cap, etv, _, hld⟩ := RdE.ent (hr.kp kz) hx
  subst etv
  have e2 : (2 * (q : Int) + z).toNat = 2 * q + z := by omega
  simp (disch := omega) only [r_ln, r_pick, r_pickT, r_pickF, r_condT, r_condF, r_gdTT, r_gdFF, r_gdTF, r_gdFT, r_gqTT, r_gqFF, r_gqTF, r_gqFT, r_not, r_lss, r_leq, r_gtr, r_geq, r_eql, r_neq, r_add, r_sub, r_min2, r_max2, r_min3, r_max3, r_fa, r_iaS, r_iaA, r_ex2a, r_ex2b, r_ex3a, r_ex3b, r_ex3c, r_nc, r_keepE, Nat.zero_add, Nat.add_zero, Nat.mul_one, Int.toNat_natCast, toNat_sub1, toNat_add1, decide_true, decide_false, Bool.not_true, Bool.not_false, if_true, if_false, Bool.false_eq_true, reduceCtorEq, decide_eq_true hzl', r_ld cT, r_mul, e2, hld]
  refine r_box fun b4 w4 e4 s4 h4 k4 => ?_
  refine r_stAll (n := 3) (ty := 102) (by kernel_rfl) rfl (by intro u hu; simp [Value.cells] at hu; rcases hu with rfl | rfl | rfl <;> rfl) h4 rfl fun w5 d5 t5 h5 => ?_
  have k5 : Kp wz w5 := Kp.of_chg k4 d5 fun i e => by omega
  have kz5 := Kp.trans kz k5
  have c0 : w5.cell? ⟨b4, 0, none⟩ = some (.int .i64 x.1) := by rw [cell_row h5]; rfl
  have c1 : w5.cell? ⟨b4, 1, none⟩ = some (.bool x.2.1) := by rw [cell_row h5]; rfl
  have c2 : w5.cell? ⟨b4, 2, none⟩ = some (.int .i64 x.2.2) := by rw [cell_row h5]; rfl
  have hP5 := hPz.kp k5
  have hcont : ∀ v' w', TlAt w2.heap.size w' v' (P ++ (List.range z).flatMap (mt3 s T q) ++ mt3 s T q z) → Kp w2 w' → TlAt w2.heap.size w' v' (P ++ (List.range (z + 1)).flatMap (mt3 s T q)) ∧ Kp w2 w' := fun v' w' ho kk => by
    rw [fl_succ, ← List.append_assoc]
    exact ⟨ho, kk⟩
  rw [hm3] at hcont
  by_cases g1 : x.2.2 < 0
  · simp (disch := omega) only [r_ln, r_pick, r_pickT, r_pickF, r_condT, r_condF, r_gdTT, r_gdFF, r_gdTF, r_gdFT, r_gqTT, r_gqFF, r_gqTF, r_gqFT, r_not, r_lss, r_leq, r_gtr, r_geq, r_eql, r_neq, r_add, r_sub, r_min2, r_max2, r_min3, r_max3, r_fa, r_iaS, r_iaA, r_ex2a, r_ex2b, r_ex3a, r_ex3b, r_ex3c, r_nc, r_keepE, Nat.zero_add, Nat.add_zero, Nat.mul_one, Int.toNat_natCast, toNat_sub1, toNat_add1, decide_true, decide_false, Bool.not_true, Bool.not_false, if_true, if_false, Bool.false_eq_true, reduceCtorEq, r_ld c2, decide_eq_true g1]
    refine r_join1 (fun v' w' => TlAt w2.heap.size w' v' (P ++ (List.range (z + 1)).flatMap (mt3 s T q)) ∧ Kp w2 w') (fun v' w' ⟨ho, kk⟩ => ?_) fun k' hk' => ?_
    · try simp (disch := omega) only [r_ln, r_pick, r_pickT, r_pickF, r_condT, r_condF, r_gdTT, r_gdFF, r_gdTF, r_gdFT, r_gqTT, r_gqFF, r_gqTF, r_gqFT, r_not, r_lss, r_leq, r_gtr, r_geq, r_eql, r_neq, r_add, r_sub, r_min2, r_max2, r_min3, r_max3, r_fa, r_iaS, r_iaA, r_ex2a, r_ex2b, r_ex3a, r_ex3b, r_ex3c, r_nc, r_keepE, Nat.zero_add, Nat.add_zero, Nat.mul_one, Int.toNat_natCast, toNat_sub1, toNat_add1, decide_true, decide_false, Bool.not_true, Bool.not_false, if_true, if_false, Bool.false_eq_true, reduceCtorEq]
      exact ⟨⟨z + 1, by omega, by go_num, ho, kk⟩, by simp only [intOf]; omega⟩
    try simp (disch := omega) only [r_ln, r_pick, r_pickT, r_pickF, r_condT, r_condF, r_gdTT, r_gdFF, r_gdTF, r_gdFT, r_gqTT, r_gqFF, r_gqTF, r_gqFT, r_not, r_lss, r_leq, r_gtr, r_geq, r_eql, r_neq, r_add, r_sub, r_min2, r_max2, r_min3, r_max3, r_fa, r_iaS, r_iaA, r_ex2a, r_ex2b, r_ex3a, r_ex3b, r_ex3c, r_nc, r_keepE, Nat.zero_add, Nat.add_zero, Nat.mul_one, Int.toNat_natCast, toNat_sub1, toNat_add1, decide_true, decide_false, Bool.not_true, Bool.not_false, if_true, if_false, Bool.false_eq_true, reduceCtorEq]
    refine hk' _ _ (hcont _ _ ?_ kz5)
    rw [if_pos g1, List.append_nil]
    exact hP5
  rw [if_neg g1] at hcont
  simp (disch := omega) only [r_ln, r_pick, r_pickT, r_pickF, r_condT, r_condF, r_gdTT, r_gdFF, r_gdTF, r_gdFT, r_gqTT, r_gqFF, r_gqTF, r_gqFT, r_not, r_lss, r_leq, r_gtr, r_geq, r_eql, r_neq, r_add, r_sub, r_min2, r_max2, r_min3, r_max3, r_fa, r_iaS, r_iaA, r_ex2a, r_ex2b, r_ex3a, r_ex3b, r_ex3c, r_nc, r_keepE, Nat.zero_add, Nat.add_zero, Nat.mul_one, Int.toNat_natCast, toNat_sub1, toNat_add1, decide_true, decide_false, Bool.not_true, Bool.not_false, if_true, if_false, Bool.false_eq_true, reduceCtorEq, r_ld c2, g1, r_ld c1]
  refine r_join1 (fun v' w' => TlAt w2.heap.size w' v' (P ++ (List.range (z + 1)).flatMap (mt3 s T q)) ∧ Kp w2 w') (fun v' w' ⟨ho, kk⟩ => ?_) fun k' hk' => ?_
  · try simp (disch := omega) only [r_ln, r_pick, r_pickT, r_pickF, r_condT, r_condF, r_gdTT, r_gdFF, r_gdTF, r_gdFT, r_gqTT, r_gqFF, r_gqTF, r_gqFT, r_not, r_lss, r_leq, r_gtr, r_geq, r_eql, r_neq, r_add, r_sub, r_min2, r_max2, r_min3, r_max3, r_fa, r_iaS, r_iaA, r_ex2a, r_ex2b, r_ex3a, r_ex3b, r_ex3c, r_nc, r_keepE, Nat.zero_add, Nat.add_zero, Nat.mul_one, Int.toNat_natCast, toNat_sub1, toNat_add1, decide_true, decide_false, Bool.not_true, Bool.not_false, if_true, if_false, Bool.false_eq_true, reduceCtorEq]
    exact ⟨⟨z + 1, by omega, by go_num, ho, kk⟩, by simp only [intOf]; omega⟩
  cases hx1 : x.2.1 with
  | true =>
    rw [hx1] at hcont
    try simp (disch := omega) only [r_ln, r_pick, r_pickT, r_pickF, r_condT, r_condF, r_gdTT, r_gdFF, r_gdTF, r_gdFT, r_gqTT, r_gqFF, r_gqTF, r_gqFT, r_not, r_lss, r_leq, r_gtr, r_geq, r_eql, r_neq, r_add, r_sub, r_min2, r_max2, r_min3, r_max3, r_fa, r_iaS, r_iaA, r_ex2a, r_ex2b, r_ex3a, r_ex3b, r_ex3c, r_nc, r_keepE, Nat.zero_add, Nat.add_zero, Nat.mul_one, Int.toNat_natCast, toNat_sub1, toNat_add1, decide_true, decide_false, Bool.not_true, Bool.not_false, if_true, if_false, Bool.false_eq_true, reduceCtorEq]
    refine r_drew fun w6 k6 _ => ?_
    have k6' := Kp.trans kz5 k6
    have c06 := cell_later k6 c0
    have c26 := cell_later k6 c2
    have cS6 : w6.cell? ⟨b1, 0, none⟩ = some (.int .i64 s) := by rw [cell_row (block_below h1 k6')]; rfl
    simp (disch := omega) only [r_ln, r_pick, r_pickT, r_pickF, r_condT, r_condF, r_gdTT, r_gdFF, r_gdTF, r_gdFT, r_gqTT, r_gqFF, r_gqTF, r_gqFT, r_not, r_lss, r_leq, r_gtr, r_geq, r_eql, r_neq, r_add, r_sub, r_min2, r_max2, r_min3, r_max3, r_fa, r_iaS, r_iaA, r_ex2a, r_ex2b, r_ex3a, r_ex3b, r_ex3c, r_nc, r_keepE, Nat.zero_add, Nat.add_zero, Nat.mul_one, Int.toNat_natCast, toNat_sub1, toNat_add1, decide_true, decide_false, Bool.not_true, Bool.not_false, if_true, if_false, Bool.false_eq_true, reduceCtorEq, r_ld c06, r_ld c26]
    refine call90 (by omega) (by omega) ⟨Kp.refl _, ?_⟩
    refine call91 (by omega) ⟨Kp.refl _, ?_⟩
    dsimp only
    rw [bdD]
    refine r_pushTK (w1 := w2) (hP5.kp k6) (by simp only [List.length_append]; omega) k6' fun v2 u2 o2 q2 => ?_
    exact hk' _ _ (hcont _ _ o2 q2)
  | false =>
    rw [hx1] at hcont
    try simp (disch := omega) only [r_ln, r_pick, r_pickT, r_pickF, r_condT, r_condF, r_gdTT, r_gdFF, r_gdTF, r_gdFT, r_gqTT, r_gqFF, r_gqTF, r_gqFT, r_not, r_lss, r_leq, r_gtr, r_geq, r_eql, r_neq, r_add, r_sub, r_min2, r_max2, r_min3, r_max3, r_fa, r_iaS, r_iaA, r_ex2a, r_ex2b, r_ex3a, r_ex3b, r_ex3c, r_nc, r_keepE, Nat.zero_add, Nat.add_zero, Nat.mul_one, Int.toNat_natCast, toNat_sub1, toNat_add1, decide_true, decide_false, Bool.not_true, Bool.not_false, if_true, if_false, Bool.false_eq_true, reduceCtorEq]
    refine r_drew fun w6 k6 _ => ?_
    have k6' := Kp.trans kz5 k6
    have c06 := cell_later k6 c0
    have c26 := cell_later k6 c2
    have cS6 : w6.cell? ⟨b1, 0, none⟩ = some (.int .i64 s) := by rw [cell_row (block_below h1 k6')]; rfl
    simp (disch := omega) only [r_ln, r_pick, r_pickT, r_pickF, r_condT, r_condF, r_gdTT, r_gdFF, r_gdTF, r_gdFT, r_gqTT, r_gqFF, r_gqTF, r_gqFT, r_not, r_lss, r_leq, r_gtr, r_geq, r_eql, r_neq, r_add, r_sub, r_min2, r_max2, r_min3, r_max3, r_fa, r_iaS, r_iaA, r_ex2a, r_ex2b, r_ex3a, r_ex3b, r_ex3c, r_nc, r_keepE, Nat.zero_add, Nat.add_zero, Nat.mul_one, Int.toNat_natCast, toNat_sub1, toNat_add1, decide_true, decide_false, Bool.not_true, Bool.not_false, if_true, if_false, Bool.false_eq_true, reduceCtorEq, r_ld c06, r_ld c26]
    refine call90 (by omega) (by omega) ⟨Kp.refl _, ?_⟩
    refine call92 cS6 (by omega) (by omega) ⟨Kp.refl _, ?_⟩
    dsimp only
    rw [bdB]
    refine r_pushTK (w1 := w2) (hP5.kp k6) (by simp only [List.length_append]; omega) k6' fun v2 u2 o2 q2 => ?_
    exact hk' _ _ (hcont _ _ o2 q2)

end Go.Proofs.Ytgalbokmgffhkaa
