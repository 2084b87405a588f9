/- Contract: Machine of the specification. -/
import Derived.Test.YtgalbokmgffhkaaD6
set_option linter.all false
namespace Go.Proofs.Ytgalbokmgffhkaa
open Go.Lf Go.RowKit Go.Wg

set_option maxRecDepth 100000 in
theorem r40_3 {w2 w : World} {b1 s : Nat} {tv v : Value} {T : List Ent} {P : List Tile} {R : Ending → World → Prop}
    (h1 : w2.heap[b1]? = some (.cells #[.int .i64 s, tv] 51 (0, 0))) (hr : RdE w2 tv T) (hs : s ≤ 2) (hT : T.length = 2 * s) (hE : ∀ x ∈ T, -1 ≤ x.2.2 ∧ x.2.2 < s) (hP : TlAt w2.heap.size w v P) (hl : P.length ≤ 50) (k : Kp w2 w)
    (hn : ∀ v' w', TlAt w2.heap.size w' v' (P ++ (List.range s).flatMap (mtB s T)) → Kp w2 w' → R (.returned (.tuple #[v', .int .i64 0])) w') :
    S40L3 (pb b1) v R w := by
  unfold S40L3
  refine ⟨fun t4 t8 wz => ∃ q : Nat, q ≤ s ∧ t8 = .int .i64 q ∧ TlAt w2.heap.size wz t4 (P ++ (List.range q).flatMap (mtB s T)) ∧ Kp w2 wz, fun _ t8 _ => s - (intOf t8).toNat, ⟨0, by omega, rfl, by simpa using hP, k⟩, ?_⟩
  rintro _ t4 _ wz ⟨q, hq, rfl, hPq, kz⟩
  have cS : wz.cell? ⟨b1, 0, none⟩ = some (.int .i64 s) := by rw [cell_row (block_below h1 kz)]; rfl
  have hlq : ((List.range q).flatMap (mtB s T)).length ≤ q * 2 := fl_le _ 2 (fun q => mtB_le s T q) q
  by_cases hql : q < s
  case neg =>
    have hql' : ¬ (q : Int) < (s : Int) := by omega
    have eq : q = s := by omega
    subst eq
    simp (disch := omega) only [r_ln, r_pick, r_pickT, r_pickF, r_condT, r_condF, r_gdTT, r_gdFF, r_gdTF, r_gdFT, r_gqTT, r_gqFF, r_gqTF, r_gqFT, r_not, r_lss, r_leq, r_gtr, r_geq, r_eql, r_neq, r_add, r_sub, r_min2, r_max2, r_min3, r_max3, r_fa, r_iaS, r_iaA, r_ex2a, r_ex2b, r_ex3a, r_ex3b, r_ex3c, r_nc, r_keepE, Nat.zero_add, Nat.add_zero, Nat.mul_one, Int.toNat_natCast, toNat_sub1, toNat_add1, decide_true, decide_false, Bool.not_true, Bool.not_false, if_true, if_false, Bool.false_eq_true, reduceCtorEq, r_ld cS, hql']
    exact hn t4 wz hPq kz
  have hql' : (q : Int) < (s : Int) := by omega
  simp (disch := omega) only [r_ln, r_pick, r_pickT, r_pickF, r_condT, r_condF, r_gdTT, r_gdFF, r_gdTF, r_gdFT, r_gqTT, r_gqFF, r_gqTF, r_gqFT, r_not, r_lss, r_leq, r_gtr, r_geq, r_eql, r_neq, r_add, r_sub, r_min2, r_max2, r_min3, r_max3, r_fa, r_iaS, r_iaA, r_ex2a, r_ex2b, r_ex3a, r_ex3b, r_ex3c, r_nc, r_keepE, Nat.zero_add, Nat.add_zero, Nat.mul_one, Int.toNat_natCast, toNat_sub1, toNat_add1, decide_true, decide_false, Bool.not_true, Bool.not_false, if_true, if_false, Bool.false_eq_true, reduceCtorEq, r_ld cS, decide_eq_true hql']
  refine r40_4 h1 hr hs hql hT hE hPq (by simp only [List.length_append]; omega) kz fun v' w' ho kk => ?_
  refine ⟨⟨q + 1, by omega, by go_num, ?_, kk⟩, by simp only [intOf]; omega⟩
  rw [fl_succ, ← List.append_assoc]
  exact ho

set_option maxRecDepth 100000 in
theorem r40_1 {w2 w : World} {b1 s : Nat} {tv v : Value} {T : List Ent} {P : List Tile} {R : Ending → World → Prop}
    (h1 : w2.heap[b1]? = some (.cells #[.int .i64 s, tv] 51 (0, 0))) (hr : RdE w2 tv T) (hs : s ≤ 2) (hT : T.length = 2 * s) (hE : ∀ x ∈ T, -1 ≤ x.2.2 ∧ x.2.2 < s) (hP : TlAt w2.heap.size w v P) (hl : P.length ≤ 20) (k : Kp w2 w)
    (hn : ∀ v' w', TlAt w2.heap.size w' v' (P ++ (List.range 2).flatMap (mtA s) ++ (List.range s).flatMap (mtB s T)) → Kp w2 w' → R (.returned (.tuple #[v', .int .i64 0])) w') :
    S40L1 (pb b1) v R w := by
  unfold S40L1
  refine ⟨fun t4 t6 wz => ∃ i : Nat, i ≤ 2 ∧ t6 = .int .i64 i ∧ TlAt w2.heap.size wz t4 (P ++ (List.range i).flatMap (mtA s)) ∧ Kp w2 wz, fun _ t6 _ => 2 - (intOf t6).toNat, ⟨0, by omega, rfl, by simpa using hP, k⟩, ?_⟩
  rintro _ t4 _ wz ⟨i, hi, rfl, hPi, kz⟩
  have hli : ((List.range i).flatMap (mtA s)).length ≤ i * 4 := fl_le _ 4 (fun q => by have := mtA_le s q; omega) i
  by_cases hil : i < 2
  case neg =>
    have hil' : ¬ (i : Int) < 2 := by omega
    have ei : i = 2 := by omega
    subst ei
    simp (disch := omega) only [r_ln, r_pick, r_pickT, r_pickF, r_condT, r_condF, r_gdTT, r_gdFF, r_gdTF, r_gdFT, r_gqTT, r_gqFF, r_gqTF, r_gqFT, r_not, r_lss, r_leq, r_gtr, r_geq, r_eql, r_neq, r_add, r_sub, r_min2, r_max2, r_min3, r_max3, r_fa, r_iaS, r_iaA, r_ex2a, r_ex2b, r_ex3a, r_ex3b, r_ex3c, r_nc, r_keepE, Nat.zero_add, Nat.add_zero, Nat.mul_one, Int.toNat_natCast, toNat_sub1, toNat_add1, decide_true, decide_false, Bool.not_true, Bool.not_false, if_true, if_false, Bool.false_eq_true, reduceCtorEq, hil']
    exact r40_3 h1 hr hs hT hE hPi (by simp only [List.length_append]; omega) kz hn
  have hil' : (i : Int) < 2 := by omega
  simp (disch := omega) only [r_ln, r_pick, r_pickT, r_pickF, r_condT, r_condF, r_gdTT, r_gdFF, r_gdTF, r_gdFT, r_gqTT, r_gqFF, r_gqTF, r_gqFT, r_not, r_lss, r_leq, r_gtr, r_geq, r_eql, r_neq, r_add, r_sub, r_min2, r_max2, r_min3, r_max3, r_fa, r_iaS, r_iaA, r_ex2a, r_ex2b, r_ex3a, r_ex3b, r_ex3c, r_nc, r_keepE, Nat.zero_add, Nat.add_zero, Nat.mul_one, Int.toNat_natCast, toNat_sub1, toNat_add1, decide_true, decide_false, Bool.not_true, Bool.not_false, if_true, if_false, Bool.false_eq_true, reduceCtorEq, decide_eq_true hil']
  refine r40_2 h1 hs hil hPi (by simp only [List.length_append]; omega) kz fun v' w' ho kk => ?_
  refine ⟨⟨i + 1, by omega, by go_num, ?_, kk⟩, by simp only [intOf]; omega⟩
  rw [fl_succ, ← List.append_assoc]
  exact ho

set_option maxRecDepth 100000 in
theorem r40_0 {w2 : World} {b1 s : Nat} {tv : Value} {T : List Ent} {R : Ending → World → Prop}
    (h1 : w2.heap[b1]? = some (.cells #[.int .i64 s, tv] 51 (0, 0))) (hr : RdE w2 tv T) (hs : s ≤ 2) (hT : T.length = 2 * s) (hE : ∀ x ∈ T, -1 ≤ x.2.2 ∧ x.2.2 < s)
    (hn : ∀ v' w', TlAt w2.heap.size w' v' (machT s T) → Kp w2 w' → R (.returned (.tuple #[v', .int .i64 0])) w') :
    S40L0 (pb b1) R w2 := by
  unfold S40L0
  refine ⟨fun t4 t5 wr => ∃ i : Nat, i ≤ 2 ∧ t5 = .int .i64 i ∧ TlAt w2.heap.size wr t4 ((List.range i).map f1) ∧ Kp w2 wr, fun _ t5 _ => 2 - (intOf t5).toNat, ⟨0, by omega, rfl, RecAt.nil, Kp.refl _⟩, ?_⟩
  rintro _ t4 _ wr ⟨i, hi, rfl, hP, kr⟩
  by_cases hlt : i < 2
  case pos =>
    have hlt' : (i : Int) < 2 := by omega
    simp (disch := omega) only [r_ln, r_pick, r_pickT, r_pickF, r_condT, r_condF, r_gdTT, r_gdFF, r_gdTF, r_gdFT, r_gqTT, r_gqFF, r_gqTF, r_gqFT, r_not, r_lss, r_leq, r_gtr, r_geq, r_eql, r_neq, r_add, r_sub, r_min2, r_max2, r_min3, r_max3, r_fa, r_iaS, r_iaA, r_ex2a, r_ex2b, r_ex3a, r_ex3b, r_ex3c, r_nc, r_keepE, Nat.zero_add, Nat.add_zero, Nat.mul_one, Int.toNat_natCast, toNat_sub1, toNat_add1, decide_true, decide_false, Bool.not_true, Bool.not_false, if_true, if_false, Bool.false_eq_true, reduceCtorEq, decide_eq_true hlt', bdA]
    refine r_pushT (w1 := w2) (t := f1 i) hP (by simp; omega) kr fun v' w' ho kk => ?_
    try simp (disch := omega) only [r_ln, r_pick, r_pickT, r_pickF, r_condT, r_condF, r_gdTT, r_gdFF, r_gdTF, r_gdFT, r_gqTT, r_gqFF, r_gqTF, r_gqFT, r_not, r_lss, r_leq, r_gtr, r_geq, r_eql, r_neq, r_add, r_sub, r_min2, r_max2, r_min3, r_max3, r_fa, r_iaS, r_iaA, r_ex2a, r_ex2b, r_ex3a, r_ex3b, r_ex3c, r_nc, r_keepE, Nat.zero_add, Nat.add_zero, Nat.mul_one, Int.toNat_natCast, toNat_sub1, toNat_add1, decide_true, decide_false, Bool.not_true, Bool.not_false, if_true, if_false, Bool.false_eq_true, reduceCtorEq]
    refine ⟨⟨i + 1, by omega, by go_num, ?_, kk⟩, by simp only [intOf]; omega⟩
    rw [List.range_succ, List.map_append]
    exact ho
  have hlt' : ¬ (i : Int) < 2 := by omega
  have ei : i = 2 := by omega
  subst ei
  rw [← mt1_eq] at hP
  simp (disch := omega) only [r_ln, r_pick, r_pickT, r_pickF, r_condT, r_condF, r_gdTT, r_gdFF, r_gdTF, r_gdFT, r_gqTT, r_gqFF, r_gqTF, r_gqFT, r_not, r_lss, r_leq, r_gtr, r_geq, r_eql, r_neq, r_add, r_sub, r_min2, r_max2, r_min3, r_max3, r_fa, r_iaS, r_iaA, r_ex2a, r_ex2b, r_ex3a, r_ex3b, r_ex3c, r_nc, r_keepE, Nat.zero_add, Nat.add_zero, Nat.mul_one, Int.toNat_natCast, toNat_sub1, toNat_add1, decide_true, decide_false, Bool.not_true, Bool.not_false, if_true, if_false, Bool.false_eq_true, reduceCtorEq, hlt']
  exact r40_1 h1 hr hs hT hE hP (by show 2 ≤ 20; omega) kr hn

set_option maxRecDepth 100000 in
theorem refmachine_calls {S : Int} {tv : Value} {T : List Ent} (w : World) (hr : RdE w tv T) (hT : T.length ≤ 1000) : Calls Try.prog 40 #[macV S tv] w fun e w' => Kp w w' ∧ MacPost S T w.heap.size w' e := by
  obtain ⟨ta, tcap, rfl, _⟩ := hr.len
  refine lift40 ?_
  unfold S40
  refine r_box fun b1 w1 e1 s1 h1 k1 => ?_
  have h1' : w1.heap[b1]? = some (.cells #[.int .i64 S, .slice ta T.length tcap] 51 (0, 0)) := h1
  rw [r_ldRow (n := 2) h1' rfl]
  refine r_use fok93 (valid2_calls (T := T) w1 (hr.kp k1) hT) rfl ?_
  rintro _ w2 ⟨rfl, k2⟩
  refine ⟨_, rfl, ?_⟩
  have k02 := Kp.trans k1 k2
  have h12 := block_below h1' k2
  cases hm : macB S T with
  | false =>
    simp (disch := omega) only [r_ln, r_pick, r_pickT, r_pickF, r_condT, r_condF, r_gdTT, r_gdFF, r_gdTF, r_gdFT, r_gqTT, r_gqFF, r_gqTF, r_gqFT, r_not, r_lss, r_leq, r_gtr, r_geq, r_eql, r_neq, r_add, r_sub, r_min2, r_max2, r_min3, r_max3, r_fa, r_iaS, r_iaA, r_ex2a, r_ex2b, r_ex3a, r_ex3b, r_ex3c, r_nc, r_keepE, Nat.zero_add, Nat.add_zero, Nat.mul_one, Int.toNat_natCast, toNat_sub1, toNat_add1, decide_true, decide_false, Bool.not_true, Bool.not_false, if_true, if_false, Bool.false_eq_true, reduceCtorEq]
    exact ⟨k02, .inl ⟨hm, rfl⟩⟩
  | true =>
  obtain ⟨s, rfl, hs1, hs2, hTl, hTe⟩ := mac_of hm
  simp (disch := omega) only [r_ln, r_pick, r_pickT, r_pickF, r_condT, r_condF, r_gdTT, r_gdFF, r_gdTF, r_gdFT, r_gqTT, r_gqFF, r_gqTF, r_gqFT, r_not, r_lss, r_leq, r_gtr, r_geq, r_eql, r_neq, r_add, r_sub, r_min2, r_max2, r_min3, r_max3, r_fa, r_iaS, r_iaA, r_ex2a, r_ex2b, r_ex3a, r_ex3b, r_ex3c, r_nc, r_keepE, Nat.zero_add, Nat.add_zero, Nat.mul_one, Int.toNat_natCast, toNat_sub1, toNat_add1, decide_true, decide_false, Bool.not_true, Bool.not_false, if_true, if_false, Bool.false_eq_true, reduceCtorEq]
  refine r40_0 (T := T) h12 (hr.kp k02) hs2 hTl (fun x hx => (hTe x hx).2) fun v' w' ho kk => ?_
  exact ⟨Kp.trans k02 kk, .inr ⟨hm, v', rfl, ho.down k02.size⟩⟩

end Go.Proofs.Ytgalbokmgffhkaa
