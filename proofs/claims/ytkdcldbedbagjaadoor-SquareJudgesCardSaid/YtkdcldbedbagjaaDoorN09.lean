/- Texts of my own, merged by program: Ki Sb Ma. -/
import Derived.Test.YtkdcldbedbagjaaDoorN08
import Derived.Test.YtkdcldbedbagjaaDoorN02
set_option linter.all false
/- Contracts: between, Trees, Merged of the program. -/
namespace Go.Proofs.YtkdcldbedbagjaaDoor
open Go.Lf Go.RowKit Go.Dt

/-- What 'between' leaves: the network, or something that is not used. -/
theorem endErr_ne {n : Int} {L : List (Int × Int)} {s t : Int} (h : ¬ netErr n L = 0) : endErr n L s t = netErr n L := if_neg h
theorem endErr_eq {n : Int} {L : List (Int × Int)} {s t : Int} (h : netErr n L = 0) : endErr n L s t = if s < 0 ∨ n ≤ s ∨ t < 0 ∨ n ≤ t ∨ s = t then 2 else 0 := if_pos h

set_option maxRecDepth 100000 in
set_option maxHeartbeats 2000000 in
theorem between_calls {v : Value} {L : List (Int × Int)} {n s t : Int} (w : World) (hr : RdW w v L) :
    Calls Tryd.prog 54 #[.int .i64 n, v, .int .i64 s, .int .i64 t] w fun e w' => Kp w w' ∧ e = .returned (.tuple #[if netErr n L = 0 then netV n v else netV 0 nilS, .int .i64 (endErr n L s t)]) := by
  obtain ⟨a, cap, ev, _⟩ := hr.len
  subst ev
  refine lift54 ?_
  unfold S54
  refine r_box fun b8 w1 e1 s1 h1 k1 => ?_
  refine r_use fok58 (of_calls (n := n) w1 (hr.kp k1)) rfl ?_
  rintro _ w2 ⟨k2, rfl⟩
  refine ⟨_, rfl, ?_⟩
  have k02 := Kp.trans k1 k2
  rw [r_ex2a, r_ex2b]
  refine r_box fun b10 w3 e3 s3 h3 k3 => ?_
  have k03 := Kp.trans k02 k3
  have h1' : w1.heap[b8]? = some (.cells #[.int .i64 0, .slice none 0 0] 80 (0, 0)) := h1
  have h13 := block_below h1' (Kp.trans k2 k3)
  have h3' : w3.heap[b10]? = some (.cells #[.int .i64 0, .slice none 0 0] 80 (0, 0)) := h3
  have hsz := k2.size
  -- the network is laid into the second box, and from there into the first
  obtain ⟨k, a', m', c', hx⟩ : ∃ k a' m' c', (if netErr n L = 0 then netV n (.slice a L.length cap) else netV 0 nilS) = netV k (.slice a' m' c') := by
    split
    · exact ⟨_, _, _, _, rfl⟩
    · exact ⟨_, _, _, _, rfl⟩
  rw [hx]
  refine st80 h3' fun w4 c4 s4 h4 => ?_
  have k04 : Kp w w4 := Kp.of_chg k03 c4 fun q e => by omega
  have h14 := c4.at h13 (by omega)
  have fin2 : ∀ (E : Int), E = endErr n L s t → ldN 2 w4 (ptrV b10) fun t43_2 => stW Tryd.prog 80 (ptrV b8) t43_2 w4 fun w_1 => ldN 2 w_1 (ptrV b8) fun r_2 => Kp w w_1 ∧ Ending.returned (Value.tuple #[r_2, .int .i64 E]) = Ending.returned (.tuple #[netV k (.slice a' m' c'), .int .i64 (endErr n L s t)]) := fun E hE => by
    rw [net_box h4]
    refine st80 h14 fun w5 c5 s5 h5 => ?_
    rw [net_box h5, hE]
    exact ⟨Kp.of_chg k04 c5 fun q e => by omega, rfl⟩
  by_cases h0 : netErr n L = 0
  case neg =>
    rw [endErr_ne h0] at fin2 ⊢
    simp (disch := omega) only [r_ln, r_pick, r_pickT, r_pickF, r_condT, r_condF, r_gdTT, r_gdFF, r_gdTF, r_gdFT, r_gqTT, r_gqFF, r_gqTF, r_gqFT, r_not, r_lss, r_leq, r_gtr, r_geq, r_eql, r_neq, r_add, r_sub, r_min2, r_max2, r_min3, r_max3, r_fa, r_iaS, r_iaA, r_ex2a, r_ex2b, r_ex3a, r_ex3b, r_ex3c, r_nc, r_keepE, Nat.zero_add, Nat.add_zero, Nat.mul_one, Int.toNat_natCast, toNat_sub1, toNat_add1, decide_true, decide_false, Bool.not_true, Bool.not_false, if_true, if_false, Bool.false_eq_true, reduceCtorEq, h0, r_gdU]
    refine r_join1 (fun v w' => v = .int .i64 (netErr n L) ∧ w4 = w') ?_ fun kk hkk => hkk _ _ ⟨rfl, rfl⟩
    rintro _ _ ⟨rfl, rfl⟩
    exact fin2 _ rfl
  rw [endErr_eq h0] at fin2 ⊢
  generalize hE : (if s < 0 ∨ n ≤ s ∨ t < 0 ∨ n ≤ t ∨ s = t then (2 : Int) else 0) = E at fin2 ⊢
  have jT : E = 2 → Join (fun (k_2 : Value → World → Prop) => k_2 (.int .i64 2) w4) (fun t11 w_1 => ldN 2 w_1 (ptrV b10) fun t43_2 => stW Tryd.prog 80 (ptrV b8) t43_2 w_1 fun w_2 => ldN 2 w_2 (ptrV b8) fun r_2 => Kp w w_2 ∧ Ending.returned (Value.tuple #[r_2, t11]) = Ending.returned (.tuple #[netV k (.slice a' m' c'), .int .i64 E])) := fun hE2 => by
    refine r_join1 (fun v w' => v = .int .i64 E ∧ w4 = w') ?_ fun kk hkk => ?_
    · rintro _ _ ⟨rfl, rfl⟩
      exact fin2 _ rfl
    · exact hkk _ _ ⟨by rw [hE2], rfl⟩
  have jF : E = 0 → Join (fun (k_2 : Value → World → Prop) => k_2 (.int .i64 (netErr n L)) w4) (fun t11 w_1 => ldN 2 w_1 (ptrV b10) fun t43_2 => stW Tryd.prog 80 (ptrV b8) t43_2 w_1 fun w_2 => ldN 2 w_2 (ptrV b8) fun r_2 => Kp w w_2 ∧ Ending.returned (Value.tuple #[r_2, t11]) = Ending.returned (.tuple #[netV k (.slice a' m' c'), .int .i64 E])) := fun hE2 => by
    refine r_join1 (fun v w' => v = .int .i64 E ∧ w4 = w') ?_ fun kk hkk => ?_
    · rintro _ _ ⟨rfl, rfl⟩
      exact fin2 _ rfl
    · exact hkk _ _ ⟨by rw [hE2, h0], rfl⟩
  rw [r_eql]
  simp only [decide_eq_true h0]
  by_cases g1 : s < 0
  · have := jT (by rw [← hE, if_pos (.inl g1)])
    simp (disch := omega) only [r_ln, r_pick, r_pickT, r_pickF, r_condT, r_condF, r_gdTT, r_gdFF, r_gdTF, r_gdFT, r_gqTT, r_gqFF, r_gqTF, r_gqFT, r_not, r_lss, r_leq, r_gtr, r_geq, r_eql, r_neq, r_add, r_sub, r_min2, r_max2, r_min3, r_max3, r_fa, r_iaS, r_iaA, r_ex2a, r_ex2b, r_ex3a, r_ex3b, r_ex3c, r_nc, r_keepE, Nat.zero_add, Nat.add_zero, Nat.mul_one, Int.toNat_natCast, toNat_sub1, toNat_add1, decide_true, decide_false, Bool.not_true, Bool.not_false, if_true, if_false, Bool.false_eq_true, reduceCtorEq, r_gdU, decide_eq_true g1]
    exact this
  by_cases g2 : n ≤ s
  · have := jT (by rw [← hE, if_pos (.inr (.inl g2))])
    simp (disch := omega) only [r_ln, r_pick, r_pickT, r_pickF, r_condT, r_condF, r_gdTT, r_gdFF, r_gdTF, r_gdFT, r_gqTT, r_gqFF, r_gqTF, r_gqFT, r_not, r_lss, r_leq, r_gtr, r_geq, r_eql, r_neq, r_add, r_sub, r_min2, r_max2, r_min3, r_max3, r_fa, r_iaS, r_iaA, r_ex2a, r_ex2b, r_ex3a, r_ex3b, r_ex3c, r_nc, r_keepE, Nat.zero_add, Nat.add_zero, Nat.mul_one, Int.toNat_natCast, toNat_sub1, toNat_add1, decide_true, decide_false, Bool.not_true, Bool.not_false, if_true, if_false, Bool.false_eq_true, reduceCtorEq, r_gdU, g1, decide_eq_true g2]
    exact this
  by_cases g3 : t < 0
  · have := jT (by rw [← hE, if_pos (.inr (.inr (.inl g3)))])
    simp (disch := omega) only [r_ln, r_pick, r_pickT, r_pickF, r_condT, r_condF, r_gdTT, r_gdFF, r_gdTF, r_gdFT, r_gqTT, r_gqFF, r_gqTF, r_gqFT, r_not, r_lss, r_leq, r_gtr, r_geq, r_eql, r_neq, r_add, r_sub, r_min2, r_max2, r_min3, r_max3, r_fa, r_iaS, r_iaA, r_ex2a, r_ex2b, r_ex3a, r_ex3b, r_ex3c, r_nc, r_keepE, Nat.zero_add, Nat.add_zero, Nat.mul_one, Int.toNat_natCast, toNat_sub1, toNat_add1, decide_true, decide_false, Bool.not_true, Bool.not_false, if_true, if_false, Bool.false_eq_true, reduceCtorEq, r_gdU, g1, g2, decide_eq_true g3]
    exact this
  by_cases g4 : n ≤ t
  · have := jT (by rw [← hE, if_pos (.inr (.inr (.inr (.inl g4))))])
    simp (disch := omega) only [r_ln, r_pick, r_pickT, r_pickF, r_condT, r_condF, r_gdTT, r_gdFF, r_gdTF, r_gdFT, r_gqTT, r_gqFF, r_gqTF, r_gqFT, r_not, r_lss, r_leq, r_gtr, r_geq, r_eql, r_neq, r_add, r_sub, r_min2, r_max2, r_min3, r_max3, r_fa, r_iaS, r_iaA, r_ex2a, r_ex2b, r_ex3a, r_ex3b, r_ex3c, r_nc, r_keepE, Nat.zero_add, Nat.add_zero, Nat.mul_one, Int.toNat_natCast, toNat_sub1, toNat_add1, decide_true, decide_false, Bool.not_true, Bool.not_false, if_true, if_false, Bool.false_eq_true, reduceCtorEq, r_gdU, g1, g2, g3, decide_eq_true g4]
    exact this
  by_cases g5 : s = t
  · have := jT (by rw [← hE, if_pos (.inr (.inr (.inr (.inr g5))))])
    simp (disch := omega) only [r_ln, r_pick, r_pickT, r_pickF, r_condT, r_condF, r_gdTT, r_gdFF, r_gdTF, r_gdFT, r_gqTT, r_gqFF, r_gqTF, r_gqFT, r_not, r_lss, r_leq, r_gtr, r_geq, r_eql, r_neq, r_add, r_sub, r_min2, r_max2, r_min3, r_max3, r_fa, r_iaS, r_iaA, r_ex2a, r_ex2b, r_ex3a, r_ex3b, r_ex3c, r_nc, r_keepE, Nat.zero_add, Nat.add_zero, Nat.mul_one, Int.toNat_natCast, toNat_sub1, toNat_add1, decide_true, decide_false, Bool.not_true, Bool.not_false, if_true, if_false, Bool.false_eq_true, reduceCtorEq, r_gdU, g1, g2, g3, g4, decide_eq_true g5]
    exact this
  · have := jF (by rw [← hE, if_neg (by omega)])
    simp (disch := omega) only [r_ln, r_pick, r_pickT, r_pickF, r_condT, r_condF, r_gdTT, r_gdFF, r_gdTF, r_gdFT, r_gqTT, r_gqFF, r_gqTF, r_gqFT, r_not, r_lss, r_leq, r_gtr, r_geq, r_eql, r_neq, r_add, r_sub, r_min2, r_max2, r_min3, r_max3, r_fa, r_iaS, r_iaA, r_ex2a, r_ex2b, r_ex3a, r_ex3b, r_ex3c, r_nc, r_keepE, Nat.zero_add, Nat.add_zero, Nat.mul_one, Int.toNat_natCast, toNat_sub1, toNat_add1, decide_true, decide_false, Bool.not_true, Bool.not_false, if_true, if_false, Bool.false_eq_true, reduceCtorEq, r_gdU, g1, g2, g3, g4, g5]
    exact this

/-- What Trees returns. -/
noncomputable def treesV (n : Int) (L : List (Int × Int)) : Int := if netErr n L = 0 then trees n.toNat (L.map natW) else 0
noncomputable def mergedV (n : Int) (L : List (Int × Int)) (s t : Int) : Int := if endErr n L s t = 0 then volt n.toNat (L.map natW) s.toNat t.toNat else 0

set_option maxRecDepth 100000 in
theorem Trees_calls {v : Value} {L : List (Int × Int)} {n : Int} (w : World) (hw : Wh w) (hr : RdW w v L) :
    Calls Tryd.prog 24 #[.int .i64 n, v] w fun e w' => Kp w w' ∧ e = .returned (.tuple #[.int .i64 (treesV n L), .int .i64 (netErr n L)]) := by
  obtain ⟨a, cap, ev, _⟩ := hr.len
  refine lift24 ?_
  unfold S24
  refine r_use fok58 (of_calls (n := n) w hr) rfl ?_
  rintro _ w2 ⟨k2, rfl⟩
  refine ⟨_, rfl, ?_⟩
  rw [r_ex2a, r_ex2b]
  refine r_box fun b6 w3 e3 s3 h3 k3 => ?_
  have k03 := Kp.trans k2 k3
  have h3' : w3.heap[b6]? = some (.cells #[.int .i64 0, .slice none 0 0] 80 (0, 0)) := h3
  have hsz := k2.size
  unfold treesV
  by_cases h0 : netErr n L = 0
  · rw [if_pos h0, if_pos h0, ev]
    refine st80 h3' fun w4 c4 s4 h4 => ?_
    have k04 : Kp w w4 := Kp.of_chg k03 c4 fun q e => by omega
    rw [r_neq, decide_eq_true h0, Bool.not_true, r_condF, net_box h4]
    obtain ⟨N, rfl, hN, hb⟩ := net_ok h0
    rw [← ev]
    refine r_use fok55 (trees_calls w4 (hw.kp k04) hN (RdW.nat (hr.kp k04) hb)) rfl ?_
    rintro _ w5 ⟨rfl, k5⟩
    exact ⟨_, rfl, Kp.trans k04 k5, by rw [h0]; rfl⟩
  · rw [if_neg h0, if_neg h0]
    refine st80 h3' fun w4 c4 s4 h4 => ?_
    have k04 : Kp w w4 := Kp.of_chg k03 c4 fun q e => by omega
    rw [r_neq, decide_eq_false h0, Bool.not_false, r_condT]
    exact ⟨k04, rfl⟩

set_option maxRecDepth 100000 in
theorem Merged_calls {v : Value} {L : List (Int × Int)} {n s t : Int} (w : World) (hw : Wh w) (hr : RdW w v L) :
    Calls Tryd.prog 26 #[.int .i64 n, v, .int .i64 s, .int .i64 t] w fun e w' => Kp w w' ∧ e = .returned (.tuple #[.int .i64 (mergedV n L s t), .int .i64 (endErr n L s t)]) := by
  obtain ⟨a, cap, ev, _⟩ := hr.len
  refine lift26 ?_
  unfold S26
  refine r_use fok54 (between_calls (n := n) (s := s) (t := t) w hr) rfl ?_
  rintro _ w2 ⟨k2, rfl⟩
  refine ⟨_, rfl, ?_⟩
  rw [r_ex2a, r_ex2b]
  refine r_box fun b6 w3 e3 s3 h3 k3 => ?_
  have k03 := Kp.trans k2 k3
  have h3' : w3.heap[b6]? = some (.cells #[.int .i64 0, .slice none 0 0] 80 (0, 0)) := h3
  have hsz := k2.size
  unfold mergedV
  by_cases h0 : endErr n L s t = 0
  · obtain ⟨hn0, S, T, rfl, rfl, hS, hT, hST⟩ := end_ok h0
    rw [if_pos h0, if_pos hn0, ev]
    refine st80 h3' fun w4 c4 s4 h4 => ?_
    have k04 : Kp w w4 := Kp.of_chg k03 c4 fun q e => by omega
    rw [r_neq, decide_eq_true h0, Bool.not_true, r_condF, net_box h4]
    obtain ⟨N, rfl, hN, hb⟩ := net_ok hn0
    rw [← ev]
    refine r_use fok56 (merged_calls w4 (hw.kp k04) hN (RdW.nat (hr.kp k04) hb) (by omega) (by omega) hST) rfl ?_
    rintro _ w5 ⟨rfl, k5⟩
    exact ⟨_, rfl, Kp.trans k04 k5, by rw [h0]; rfl⟩
  · rw [if_neg h0]
    obtain ⟨k, a', m', c', hx⟩ : ∃ k a' m' c', (if netErr n L = 0 then netV n v else netV 0 nilS) = netV k (.slice a' m' c') := by
      split
      · exact ⟨_, _, _, _, by rw [ev]⟩
      · exact ⟨_, _, _, _, rfl⟩
    rw [hx]
    refine st80 h3' fun w4 c4 s4 h4 => ?_
    have k04 : Kp w w4 := Kp.of_chg k03 c4 fun q e => by omega
    rw [r_neq, decide_eq_false h0, Bool.not_false, r_condT]
    exact ⟨k04, rfl⟩

end Go.Proofs.YtkdcldbedbagjaaDoor

/- Lifted texts, printed by program (gen.py): what each function's code asks. The ties are by the kernel. -/
namespace Go.Proofs.YtkdcldbedbagjaaDoor
open Go.Lf Go.RowKit

def S42 (t0 : Value) (w : World) (R : Ending → World → Prop) : Prop :=
  binQ Tryd.prog w .geq 3 true t0 (.int .i64 1) fun t4 =>
  gd t4 true (fun k => k t0 w) w fun t6 w =>
  gd t4 true (fun k => binQ Tryd.prog w .leq 3 true t6 (.int .i64 1000) fun v => k v w) w fun t7 w =>
  pickQ t4 t7 (.bool false) fun t8 =>
  R (.returned t8) w

def A42 : Ann where
  live := fun _ => []
  wr := fun _ _ => false
  sched := fun _ => .done

set_option maxRecDepth 100000 in
theorem ok42 : (codeOk Tryd.f42.ntmps A42 (Tryd.f42.body.getD .skip) 0 && Nat.ble 1 Tryd.f42.ntmps) = true := by kernel_rfl
set_option maxRecDepth 100000 in
theorem lift42 {t0 : Value} {w : World} {R : Ending → World → Prop} (h : S42 t0 w R) : Calls Tryd.prog 42 #[t0] w R :=
  calls_of_cw (fn := Tryd.f42) (c := Tryd.f42.body.getD .skip) A42 mixes Tryd.func42 (by kernel_rfl) ok42
    ((by kernel_rfl : (S42 t0 w R) = cw Tryd.prog A42 (Tryd.f42.body.getD .skip) 0 (bodyQ Tryd.prog Tryd.f42 R) (frOf #[t0]) w).mp h)

def S64 (t0 t1 t2 : Value) (w : World) (R : Ending → World → Prop) : Prop :=
  boxW 44 t2 w fun t5 w =>
  fa1 t5 2 fun t7 =>
  ld1 w t7 fun t8 =>
  binQ Tryd.prog w .geq 3 true t8 (.int .i64 1) fun t9 =>
  gd t9 true (fun k => fa1 t5 2 fun v => k v w) w fun t11 w =>
  gd t9 true (fun k => ld1 w t11 fun v => k v w) w fun t12 w =>
  gd t9 true (fun k => k t0 w) w fun t13 w =>
  gd t9 true (fun k => k t1 w) w fun t14 w =>
  gd t9 true (fun k => mnQ false [t13, t14] fun v => k v w) w fun t15 w =>
  gd t9 true (fun k => binQ Tryd.prog w .leq 3 false t12 t15 fun v => k v w) w fun t16 w =>
  pickQ t9 t16 (.bool false) fun t17 =>
  gd t17 true (fun k => fa1 t5 0 fun v => k v w) w fun t19 w =>
  gd t17 true (fun k => ld1 w t19 fun v => k v w) w fun t20 w =>
  gd t17 true (fun k => binQ Tryd.prog w .geq 3 true t20 (.int .i64 0) fun v => k v w) w fun t21 w =>
  pickQ t17 t21 (.bool false) fun t22 =>
  gd t22 true (fun k => fa1 t5 1 fun v => k v w) w fun t24 w =>
  gd t22 true (fun k => ld1 w t24 fun v => k v w) w fun t25 w =>
  gd t22 true (fun k => binQ Tryd.prog w .geq 3 true t25 (.int .i64 0) fun v => k v w) w fun t26 w =>
  pickQ t22 t26 (.bool false) fun t27 =>
  gd t27 true (fun k => fa1 t5 0 fun v => k v w) w fun t29 w =>
  gd t27 true (fun k => ld1 w t29 fun v => k v w) w fun t30 w =>
  gd t27 true (fun k => k t0 w) w fun t31 w =>
  gd t27 true (fun k => fa1 t5 2 fun v => k v w) w fun t32 w =>
  gd t27 true (fun k => ld1 w t32 fun v => k v w) w fun t33 w =>
  gd t27 true (fun k => binQ Tryd.prog w .sub 3 false t31 t33 fun v => k v w) w fun t34 w =>
  gd t27 true (fun k => binQ Tryd.prog w .leq 3 false t30 t34 fun v => k v w) w fun t35 w =>
  pickQ t27 t35 (.bool false) fun t36 =>
  gd t36 true (fun k => fa1 t5 1 fun v => k v w) w fun t38 w =>
  gd t36 true (fun k => ld1 w t38 fun v => k v w) w fun t39 w =>
  gd t36 true (fun k => k t1 w) w fun t40 w =>
  gd t36 true (fun k => fa1 t5 2 fun v => k v w) w fun t41 w =>
  gd t36 true (fun k => ld1 w t41 fun v => k v w) w fun t42 w =>
  gd t36 true (fun k => binQ Tryd.prog w .sub 3 false t40 t42 fun v => k v w) w fun t43 w =>
  gd t36 true (fun k => binQ Tryd.prog w .leq 3 false t39 t43 fun v => k v w) w fun t44 w =>
  pickQ t36 t44 (.bool false) fun t45 =>
  R (.returned t45) w

def A64 : Ann where
  live := fun _ => []
  wr := fun _ _ => false
  sched := fun _ => .done

set_option maxRecDepth 100000 in
theorem ok64 : (codeOk Tryd.f64.ntmps A64 (Tryd.f64.body.getD .skip) 0 && Nat.ble 3 Tryd.f64.ntmps) = true := by kernel_rfl
set_option maxRecDepth 100000 in
theorem lift64 {t0 t1 t2 : Value} {w : World} {R : Ending → World → Prop} (h : S64 t0 t1 t2 w R) : Calls Tryd.prog 64 #[t0, t1, t2] w R :=
  calls_of_cw (fn := Tryd.f64) (c := Tryd.f64.body.getD .skip) A64 mixes Tryd.func64 (by kernel_rfl) ok64
    ((by kernel_rfl : (S64 t0 t1 t2 w R) = cw Tryd.prog A64 (Tryd.f64.body.getD .skip) 0 (bodyQ Tryd.prog Tryd.f64 R) (frOf #[t0, t1, t2]) w).mp h)

def S43L1 (t7 t9 t14 t26 t27 : Value) (next : Value → Value → World → Prop) (R : Ending → World → Prop) (w : World) : Prop :=
  Loop1 (.int .i64 0) w fun _ t28 w next_2 =>
    binQ Tryd.prog w .lss 3 false t28 t27 fun t29 =>
    condW t29 (
      iaS 3 t26 t28 fun t30 =>
      ldN 3 w t30 fun t31 =>
      boxW 44 (.agg #[(.int .i64 0), (.int .i64 0), (.int .i64 0)]) w fun t11 w =>
      stW Tryd.prog 44 t11 t31 w fun w =>
      fa1 t9 0 fun t32 =>
      ld1 w t32 fun t33 =>
      fa1 t11 0 fun t34 =>
      ld1 w t34 fun t35 =>
      fa1 t11 2 fun t36 =>
      ld1 w t36 fun t37 =>
      binQ Tryd.prog w .add 3 false t35 t37 fun t38 =>
      binQ Tryd.prog w .lss 3 false t33 t38 fun t39 =>
      gd t39 true (fun k => fa1 t11 0 fun v => k v w) w fun t41 w =>
      gd t39 true (fun k => ld1 w t41 fun v => k v w) w fun t42 w =>
      gd t39 true (fun k => fa1 t9 0 fun v => k v w) w fun t43 w =>
      gd t39 true (fun k => ld1 w t43 fun v => k v w) w fun t44 w =>
      gd t39 true (fun k => fa1 t9 2 fun v => k v w) w fun t45 w =>
      gd t39 true (fun k => ld1 w t45 fun v => k v w) w fun t46 w =>
      gd t39 true (fun k => binQ Tryd.prog w .add 3 false t44 t46 fun v => k v w) w fun t47 w =>
      gd t39 true (fun k => binQ Tryd.prog w .lss 3 false t42 t47 fun v => k v w) w fun t48 w =>
      pickQ t39 t48 (.bool false) fun t49 =>
      gd t49 true (fun k => fa1 t9 1 fun v => k v w) w fun t51 w =>
      gd t49 true (fun k => ld1 w t51 fun v => k v w) w fun t52 w =>
      gd t49 true (fun k => fa1 t11 1 fun v => k v w) w fun t53 w =>
      gd t49 true (fun k => ld1 w t53 fun v => k v w) w fun t54 w =>
      gd t49 true (fun k => fa1 t11 2 fun v => k v w) w fun t55 w =>
      gd t49 true (fun k => ld1 w t55 fun v => k v w) w fun t56 w =>
      gd t49 true (fun k => binQ Tryd.prog w .add 3 false t54 t56 fun v => k v w) w fun t57 w =>
      gd t49 true (fun k => binQ Tryd.prog w .lss 3 false t52 t57 fun v => k v w) w fun t58 w =>
      pickQ t49 t58 (.bool false) fun t59 =>
      gd t59 true (fun k => fa1 t11 1 fun v => k v w) w fun t61 w =>
      gd t59 true (fun k => ld1 w t61 fun v => k v w) w fun t62 w =>
      gd t59 true (fun k => fa1 t9 1 fun v => k v w) w fun t63 w =>
      gd t59 true (fun k => ld1 w t63 fun v => k v w) w fun t64 w =>
      gd t59 true (fun k => fa1 t9 2 fun v => k v w) w fun t65 w =>
      gd t59 true (fun k => ld1 w t65 fun v => k v w) w fun t66 w =>
      gd t59 true (fun k => binQ Tryd.prog w .add 3 false t64 t66 fun v => k v w) w fun t67 w =>
      gd t59 true (fun k => binQ Tryd.prog w .lss 3 false t62 t67 fun v => k v w) w fun t68 w =>
      pickQ t59 t68 (.bool false) fun t69 =>
      condW t69 (
        R (.returned (.bool false)) w
      ) (
        binQ Tryd.prog w .add 3 true t28 (.int .i64 1) fun t70 =>
        next_2 t70 w
      )
    ) (
      fa1 t9 2 fun t72 =>
      ld1 w t72 fun t73 =>
      fa1 t9 2 fun t74 =>
      ld1 w t74 fun t75 =>
      binQ Tryd.prog w .mul 3 false t73 t75 fun t76 =>
      binQ Tryd.prog w .add 3 false t7 t76 fun t77 =>
      binQ Tryd.prog w .add 3 true t14 (.int .i64 1) fun t78 =>
      next t77 t78 w
    )

def S43L0 (t0 t1 t2 t13 : Value) (R : Ending → World → Prop) (w : World) : Prop :=
  Loop2 (.int .i64 0) (.int .i64 0) w fun _ t7 t14 w next =>
    binQ Tryd.prog w .lss 3 false t14 t13 fun t15 =>
    condW t15 (
      iaS 3 t2 t14 fun t17 =>
      ldN 3 w t17 fun t18 =>
      boxW 44 (.agg #[(.int .i64 0), (.int .i64 0), (.int .i64 0)]) w fun t9 w =>
      stW Tryd.prog 44 t9 t18 w fun w =>
      ldN 3 w t9 fun t21 =>
      callW Tryd.prog (.func (.func 64) #[] #[]) [t0, t1, t21] w fun t22 w =>
      unQ .not t22 fun t23 =>
      condW t23 (
        R (.returned (.bool false)) w
      ) (
        slS 3 t2 none (some t14) fun t26 =>
        ln1 t26 fun t27 =>
        S43L1 t7 t9 t14 t26 t27 next R w
      )
    ) (
      binQ Tryd.prog w .mul 3 false t0 t1 fun t82 =>
      binQ Tryd.prog w .eql 3 false t7 t82 fun t83 =>
      R (.returned t83) w
    )



def S43 (t0 t1 t2 : Value) (w : World) (R : Ending → World → Prop) : Prop :=
  ln1 t2 fun t13 =>
  S43L0 t0 t1 t2 t13 R w

def A43 : Ann where
  live := fun
    | 0 => [7, 14]
    | 2 => [28]
    | _ => []
  wr := fun
    | 0 => fun i => (Nat.ble 6 i && Nat.ble i 9) || Nat.beq i 11 || (Nat.ble 14 i && Nat.ble i 78)
    | 2 => fun i => Nat.beq i 6 || Nat.beq i 11 || (Nat.ble 28 i && Nat.ble i 70)
    | _ => fun _ => false
  sched := fun _ => .done

set_option maxRecDepth 100000 in
theorem ok43 : (codeOk Tryd.f43.ntmps A43 (Tryd.f43.body.getD .skip) 0 && Nat.ble 3 Tryd.f43.ntmps) = true := by kernel_rfl
set_option maxRecDepth 100000 in
theorem lift43 {t0 t1 t2 : Value} {w : World} {R : Ending → World → Prop} (h : S43 t0 t1 t2 w R) : Calls Tryd.prog 43 #[t0, t1, t2] w R :=
  calls_of_cw (fn := Tryd.f43) (c := Tryd.f43.body.getD .skip) A43 mixes Tryd.func43 (by kernel_rfl) ok43
    ((by kernel_rfl : (S43 t0 t1 t2 w R) = cw Tryd.prog A43 (Tryd.f43.body.getD .skip) 0 (bodyQ Tryd.prog Tryd.f43 R) (frOf #[t0, t1, t2]) w).mp h)

def S15 (t0 t1 t2 : Value) (w : World) (R : Ending → World → Prop) : Prop :=
  callW Tryd.prog (.func (.func 42) #[] #[]) [t0] w fun t10 w =>
  unQ .not t10 fun t11 =>
  gd t11 false (fun k => k t1 w) w fun t13 w =>
  gd t11 false (fun k => callW Tryd.prog (.func (.func 42) #[] #[]) [t13] w k) w fun t14 w =>
  gd t11 false (fun k => unQ .not t14 fun v => k v w) w fun t15 w =>
  pickQ t11 (.bool true) t15 fun t16 =>
  condW t16 (
    R (.returned (.tuple #[(.bool false), (.int .i64 2)])) w
  ) (
    ln1 t2 fun t19 =>
    binQ Tryd.prog w .gtr 3 true t19 (.int .i64 16) fun t20 =>
    condW t20 (
      R (.returned (.tuple #[(.bool false), (.int .i64 3)])) w
    ) (
      callW Tryd.prog (.func (.func 43) #[] #[]) [t0, t1, t2] w fun t24 w =>
      R (.returned (.tuple #[t24, (.int .i64 0)])) w
    )
  )

def A15 : Ann where
  live := fun _ => []
  wr := fun _ _ => false
  sched := fun _ => .done

set_option maxRecDepth 100000 in
theorem ok15 : (codeOk Tryd.f15.ntmps A15 (Tryd.f15.body.getD .skip) 0 && Nat.ble 3 Tryd.f15.ntmps) = true := by kernel_rfl
set_option maxRecDepth 100000 in
theorem lift15 {t0 t1 t2 : Value} {w : World} {R : Ending → World → Prop} (h : S15 t0 t1 t2 w R) : Calls Tryd.prog 15 #[t0, t1, t2] w R :=
  calls_of_cw (fn := Tryd.f15) (c := Tryd.f15.body.getD .skip) A15 mixes Tryd.func15 (by kernel_rfl) ok15
    ((by kernel_rfl : (S15 t0 t1 t2 w R) = cw Tryd.prog A15 (Tryd.f15.body.getD .skip) 0 (bodyQ Tryd.prog Tryd.f15 R) (frOf #[t0, t1, t2]) w).mp h)

def S68 (t0 t1 : Value) (w : World) (R : Ending → World → Prop) : Prop :=
  callW Tryd.prog (.func (.func 82) #[] #[]) [t0] w fun t8 w =>
  callW Tryd.prog (.func (.func 82) #[] #[]) [t1] w fun t10 w =>
  condW t8 (
    condW t10 (
      R (.returned (.int .i64 0)) w
    ) (
      R (.returned (.int .i64 (-1))) w
    )
  ) (
    condW t10 (
      R (.returned (.int .i64 1)) w
    ) (
      binQ Tryd.prog w .lss 3 false t0 t1 fun t16 =>
      condW t16 (
        R (.returned (.int .i64 (-1))) w
      ) (
        binQ Tryd.prog w .gtr 3 false t0 t1 fun t19 =>
        condW t19 (
          R (.returned (.int .i64 1)) w
        ) (
          R (.returned (.int .i64 0)) w
        )
      )
    )
  )

def A68 : Ann where
  live := fun _ => []
  wr := fun _ _ => false
  sched := fun _ => .done

set_option maxRecDepth 100000 in
theorem ok68 : (codeOk Tryd.f68.ntmps A68 (Tryd.f68.body.getD .skip) 0 && Nat.ble 2 Tryd.f68.ntmps) = true := by kernel_rfl
set_option maxRecDepth 100000 in
theorem lift68 {t0 t1 : Value} {w : World} {R : Ending → World → Prop} (h : S68 t0 t1 w R) : Calls Tryd.prog 68 #[t0, t1] w R :=
  calls_of_cw (fn := Tryd.f68) (c := Tryd.f68.body.getD .skip) A68 mixes Tryd.func68 (by kernel_rfl) ok68
    ((by kernel_rfl : (S68 t0 t1 w R) = cw Tryd.prog A68 (Tryd.f68.body.getD .skip) 0 (bodyQ Tryd.prog Tryd.f68 R) (frOf #[t0, t1]) w).mp h)

def S82 (t0 : Value) (w : World) (R : Ending → World → Prop) : Prop :=
  binQ Tryd.prog w .neq 3 false t0 t0 fun t5 =>
  R (.returned t5) w

def A82 : Ann where
  live := fun _ => []
  wr := fun _ _ => false
  sched := fun _ => .done

set_option maxRecDepth 100000 in
theorem ok82 : (codeOk Tryd.f82.ntmps A82 (Tryd.f82.body.getD .skip) 0 && Nat.ble 1 Tryd.f82.ntmps) = true := by kernel_rfl
set_option maxRecDepth 100000 in
theorem lift82 {t0 : Value} {w : World} {R : Ending → World → Prop} (h : S82 t0 w R) : Calls Tryd.prog 82 #[t0] w R :=
  calls_of_cw (fn := Tryd.f82) (c := Tryd.f82.body.getD .skip) A82 mixes Tryd.func82 (by kernel_rfl) ok82
    ((by kernel_rfl : (S82 t0 w R) = cw Tryd.prog A82 (Tryd.f82.body.getD .skip) 0 (bodyQ Tryd.prog Tryd.f82 R) (frOf #[t0]) w).mp h)

def S67L0 (t0 t7 : Value) (R : Ending → World → Prop) (w : World) : Prop :=
  Loop1 (.int .i64 0) w fun _ t8 w next =>
    binQ Tryd.prog w .lss 3 false t8 t7 fun t9 =>
    condW t9 (
      iaS 1 t0 t8 fun t10 =>
      ld1 w t10 fun t11 =>
      binQ Tryd.prog w .neq 3 false t11 (.int .i64 0) fun t14 =>
      condW t14 (
        R (.returned t11) w
      ) (
        binQ Tryd.prog w .add 3 true t8 (.int .i64 1) fun t16 =>
        next t16 w
      )
    ) (
      R (.returned (.int .i64 0)) w
    )



def S67 (t0 : Value) (w : World) (R : Ending → World → Prop) : Prop :=
  ln1 t0 fun t7 =>
  S67L0 t0 t7 R w

def A67 : Ann where
  live := fun
    | 0 => [8]
    | _ => []
  wr := fun
    | 0 => fun i => Nat.beq i 2 || Nat.beq i 5 || (Nat.ble 8 i && Nat.ble i 16)
    | _ => fun _ => false
  sched := fun _ => .done

set_option maxRecDepth 100000 in
theorem ok67 : (codeOk Tryd.f67.ntmps A67 (Tryd.f67.body.getD .skip) 0 && Nat.ble 1 Tryd.f67.ntmps) = true := by kernel_rfl
set_option maxRecDepth 100000 in
theorem lift67 {t0 : Value} {w : World} {R : Ending → World → Prop} (h : S67 t0 w R) : Calls Tryd.prog 67 #[t0] w R :=
  calls_of_cw (fn := Tryd.f67) (c := Tryd.f67.body.getD .skip) A67 mixes Tryd.func67 (by kernel_rfl) ok67
    ((by kernel_rfl : (S67 t0 w R) = cw Tryd.prog A67 (Tryd.f67.body.getD .skip) 0 (bodyQ Tryd.prog Tryd.f67 R) (frOf #[t0]) w).mp h)

def S66 (t0 t1 : Value) (w : World) (R : Ending → World → Prop) : Prop :=
  boxW 71 t0 w fun t2 w =>
  boxW 71 t1 w fun t3 w =>
  Drew w fun w =>
  fa1 t2 0 fun t5 =>
  ld1 w t5 fun t6 =>
  fa1 t3 0 fun t7 =>
  ld1 w t7 fun t8 =>
  fa1 t2 1 fun t10 =>
  ld1 w t10 fun t11 =>
  fa1 t3 1 fun t12 =>
  ld1 w t12 fun t13 =>
  callW Tryd.prog (.func (.func 68) #[] #[]) [t6, t8] w <| keepB w fun t9 w =>
  callW Tryd.prog (.func (.func 68) #[] #[]) [t11, t13] w fun t14 w =>
  bsW Tryd.prog 34 2 [(0, t9), (1, t14)] w fun t15 w =>
  callW Tryd.prog (.func (.func 67) #[] #[]) [t15] w fun t16 w =>
  R (.returned t16) w

def A66 : Ann where
  live := fun _ => []
  wr := fun _ _ => false
  sched := fun
    | 1 => (.take 0 (.take 1 (.take 2 (.take 3 (.take 5 (.take 6 (.take 7 (.take 8 (.eff 4 (.bar 9 (.bar 10 (.bar 11 (.take 12 .done)))))))))))))
    | _ => .done

set_option maxRecDepth 100000 in
theorem ok66 : (codeOk Tryd.f66.ntmps A66 (Tryd.f66.body.getD .skip) 0 && Nat.ble 2 Tryd.f66.ntmps) = true := by kernel_rfl
set_option maxRecDepth 100000 in
theorem lift66 {t0 t1 : Value} {w : World} {R : Ending → World → Prop} (h : S66 t0 t1 w R) : Calls Tryd.prog 66 #[t0, t1] w R :=
  calls_of_cw (fn := Tryd.f66) (c := Tryd.f66.body.getD .skip) A66 mixes Tryd.func66 (by kernel_rfl) ok66
    ((by kernel_rfl : (S66 t0 t1 w R) = cw Tryd.prog A66 (Tryd.f66.body.getD .skip) 0 (bodyQ Tryd.prog Tryd.f66 R) (frOf #[t0, t1]) w).mp h)

def S46L1 (t3 t46 : Value) (R : Ending → World → Prop) (w : World) : Prop :=
  Loop2 (.slice none 0 0) (.int .i64 0) w fun _ t6 t47 w next_2 =>
    binQ Tryd.prog w .lss 3 false t47 t46 fun t48 =>
    condW t48 (
      Join (fun (k_2 : Value → World → Prop) =>
        iaS 3 t3 t47 fun t49 =>
        ldN 3 w t49 fun t50 =>
        boxW 71 (.agg #[(.int .i64 0), (.int .i64 0), (.int .i64 0)]) w fun t8 w =>
        stW Tryd.prog 71 t8 t50 w fun w =>
        ln1 t6 fun t52 =>
        Drew w fun w =>
        binQ Tryd.prog w .gtr 3 true t52 (.int .i64 0) fun t54 =>
        gdQ t54 true (fun k => k t6) fun t56 =>
        gdQ t54 true (fun k => k t52) fun t57 =>
        gdQ t54 true (fun k => binQ Tryd.prog w .sub 3 true t57 (.int .i64 1) k) fun t58 =>
        gdQ t54 true (fun k => iaS 3 t56 t58 k) fun t59 =>
        gdQ t54 true (fun k => fa1 t59 0 k) fun t60 =>
        gdQ t54 true (fun k => ld1 w t60 k) fun t61 =>
        gdQ t54 true (fun k => fa1 t8 0 k) fun t62 =>
        gdQ t54 true (fun k => ld1 w t62 k) fun t63 =>
        gdQ t54 true (fun k => binQ Tryd.prog w .eql 3 false t61 t63 k) fun t64 =>
        pickQ t54 t64 (.bool false) fun t65 =>
        gdQ t65 true (fun k => k t6) fun t67 =>
        gdQ t65 true (fun k => k t52) fun t68 =>
        gdQ t65 true (fun k => binQ Tryd.prog w .sub 3 true t68 (.int .i64 1) k) fun t69 =>
        gdQ t65 true (fun k => iaS 3 t67 t69 k) fun t70 =>
        gdQ t65 true (fun k => fa1 t70 2 k) fun t71 =>
        gdQ t65 true (fun k => ld1 w t71 k) fun t72 =>
        gdQ t65 true (fun k => fa1 t8 1 k) fun t73 =>
        gdQ t65 true (fun k => ld1 w t73 k) fun t74 =>
        gdQ t65 true (fun k => binQ Tryd.prog w .geq 3 false t72 t74 k) fun t75 =>
        pickQ t65 t75 (.bool false) fun t76 =>
        condW t76 (
          Drew w fun w =>
          binQ Tryd.prog w .sub 3 true t52 (.int .i64 1) fun t79 =>
          binQ Tryd.prog w .sub 3 true t52 (.int .i64 1) fun t82 =>
          iaS 3 t6 t82 fun t83 =>
          fa1 t83 2 fun t84 =>
          ld1 w t84 fun t85 =>
          fa1 t8 2 fun t86 =>
          ld1 w t86 fun t87 =>
          mnQ true [t85, t87] fun t88 =>
          iaS 3 t6 t79 fun t89 =>
          fa1 t89 2 fun t90 =>
          stW Tryd.prog 3 t90 t88 w fun w =>
          k_2 t6 w
        ) (
          ldN 3 w t8 fun t92 =>
          bsW Tryd.prog 68 1 [(0, t92)] w fun t93 w =>
          semW Tryd.prog (apS [68, 68] 68 [t6, t93]) w fun t94 w =>
          k_2 t94 w
        )
      ) fun t6_2 w =>
      binQ Tryd.prog w .add 3 true t47 (.int .i64 1) fun t95_2 =>
      next_2 t6_2 t95_2 w
    ) (
      R (.returned t6) w
    )

def S46L0 (t0 t11 : Value) (R : Ending → World → Prop) (w : World) : Prop :=
  Loop2 (.slice none 0 0) (.int .i64 0) w fun _ t3 t12 w next =>
    binQ Tryd.prog w .lss 3 false t12 t11 fun t13 =>
    condW t13 (
      iaS 3 t0 t12 fun t14 =>
      ldN 3 w t14 fun t15 =>
      boxW 44 (.agg #[(.int .i64 0), (.int .i64 0), (.int .i64 0)]) w fun t5 w =>
      stW Tryd.prog 44 t5 t15 w fun w =>
      fa1 t5 1 fun t17 =>
      ld1 w t17 fun t18 =>
      fa1 t5 0 fun t19 =>
      ld1 w t19 fun t20 =>
      fa1 t5 0 fun t21 =>
      ld1 w t21 fun t22 =>
      fa1 t5 2 fun t23 =>
      ld1 w t23 fun t24 =>
      binQ Tryd.prog w .add 3 false t22 t24 fun t25 =>
      bdQ Tryd.prog 71 [(0, t18), (1, t20), (2, t25)] fun t26 =>
      fa1 t5 1 fun t27 =>
      ld1 w t27 fun t28 =>
      fa1 t5 2 fun t29 =>
      ld1 w t29 fun t30 =>
      binQ Tryd.prog w .add 3 false t28 t30 fun t31 =>
      fa1 t5 0 fun t32 =>
      ld1 w t32 fun t33 =>
      fa1 t5 0 fun t34 =>
      ld1 w t34 fun t35 =>
      fa1 t5 2 fun t36 =>
      ld1 w t36 fun t37 =>
      binQ Tryd.prog w .add 3 false t35 t37 fun t38 =>
      bdQ Tryd.prog 71 [(0, t31), (1, t33), (2, t38)] fun t39 =>
      bsW Tryd.prog 68 2 [(0, t26), (1, t39)] w fun t40 w =>
      semW Tryd.prog (apS [68, 68] 68 [t3, t40]) w fun t41 w =>
      binQ Tryd.prog w .add 3 true t12 (.int .i64 1) fun t42 =>
      next t41 t42 w
    ) (
      callW Tryd.prog (.func (.func 65) #[] #[]) [t3, (.func (.func 66) #[] #[])] w fun t44 w =>
      ln1 t3 fun t46 =>
      S46L1 t3 t46 R w
    )



def S46 (t0 : Value) (w : World) (R : Ending → World → Prop) : Prop :=
  ln1 t0 fun t11 =>
  S46L0 t0 t11 R w

def A46 : Ann where
  live := fun
    | 0 => [3, 12]
    | 2 => [6, 47]
    | _ => []
  wr := fun
    | 0 => fun i => Nat.beq i 3 || Nat.beq i 5 || (Nat.ble 12 i && Nat.ble i 42)
    | 2 => fun i => Nat.beq i 6 || (Nat.ble 8 i && Nat.ble i 9) || (Nat.ble 47 i && Nat.ble i 95)
    | _ => fun _ => false
  sched := fun
    | 13 => (.take 0 (.take 1 (.take 2 (.take 3 (.take 4 (.take 5 (.take 6 (.take 7 (.take 8 (.take 9 (.take 10 (.take 11 (.take 12 (.take 13 (.take 14 (.take 15 (.take 16 (.take 17 (.take 18 (.take 19 (.take 20 (.take 21 (.take 22 (.take 23 .done))))))))))))))))))))))))
    | 14 => (.take 0 (.take 1 (.take 2 (.take 3 (.take 4 (.take 5 (.take 6 (.take 7 (.take 8 (.take 9 (.take 10 (.take 11 (.take 12 (.take 13 (.bar 14 .done)))))))))))))))
    | _ => .done

set_option maxRecDepth 100000 in
theorem ok46 : (codeOk Tryd.f46.ntmps A46 (Tryd.f46.body.getD .skip) 0 && Nat.ble 1 Tryd.f46.ntmps) = true := by kernel_rfl
set_option maxRecDepth 100000 in
theorem lift46 {t0 : Value} {w : World} {R : Ending → World → Prop} (h : S46 t0 w R) : Calls Tryd.prog 46 #[t0] w R :=
  calls_of_cw (fn := Tryd.f46) (c := Tryd.f46.body.getD .skip) A46 mixes Tryd.func46 (by kernel_rfl) ok46
    ((by kernel_rfl : (S46 t0 w R) = cw Tryd.prog A46 (Tryd.f46.body.getD .skip) 0 (bodyQ Tryd.prog Tryd.f46 R) (frOf #[t0]) w).mp h)

def S48L0 (t0 t1 t7 : Value) (R : Ending → World → Prop) (w : World) : Prop :=
  Loop1 (.int .i64 0) w fun _ t8 w next =>
    binQ Tryd.prog w .lss 3 false t8 t7 fun t9 =>
    condW t9 (
      iaS 3 t0 t8 fun t14 =>
      ldN 3 w t14 fun t15 =>
      callW Tryd.prog t1 [t15] w fun t16 w =>
      condW t16 (
        R (.returned t8) w
      ) (
        binQ Tryd.prog w .add 3 true t8 (.int .i64 1) fun t18 =>
        next t18 w
      )
    ) (
      R (.returned (.int .i64 (-1))) w
    )



def S48 (t0 t1 : Value) (w : World) (R : Ending → World → Prop) : Prop :=
  ln1 t0 fun t7 =>
  S48L0 t0 t1 t7 R w

def A48 : Ann where
  live := fun
    | 0 => [8]
    | _ => []
  wr := fun
    | 0 => fun i => (Nat.ble 4 i && Nat.ble i 5) || (Nat.ble 8 i && Nat.ble i 18)
    | _ => fun _ => false
  sched := fun _ => .done

set_option maxRecDepth 100000 in
theorem ok48 : (codeOk Tryd.f48.ntmps A48 (Tryd.f48.body.getD .skip) 0 && Nat.ble 2 Tryd.f48.ntmps) = true := by kernel_rfl
set_option maxRecDepth 100000 in
theorem lift48 {t0 t1 : Value} {w : World} {R : Ending → World → Prop} (h : S48 t0 t1 w R) : Calls Tryd.prog 48 #[t0, t1] w R :=
  calls_of_cw (fn := Tryd.f48) (c := Tryd.f48.body.getD .skip) A48 mixes Tryd.func48 (by kernel_rfl) ok48
    ((by kernel_rfl : (S48 t0 t1 w R) = cw Tryd.prog A48 (Tryd.f48.body.getD .skip) 0 (bodyQ Tryd.prog Tryd.f48 R) (frOf #[t0, t1]) w).mp h)

def S49 (t0 t1 t2 : Value) (w : World) (R : Ending → World → Prop) : Prop :=
  boxW 71 t0 w fun t3 w =>
  fa1 t3 0 fun t5 =>
  ld1 w t5 fun t6 =>
  ld1 w t1 fun t7 =>
  binQ Tryd.prog w .eql 3 false t6 t7 fun t8 =>
  gd t8 true (fun k => fa1 t3 1 fun v => k v w) w fun t10 w =>
  gd t8 true (fun k => ld1 w t10 fun v => k v w) w fun t11 w =>
  gd t8 true (fun k => ld1 w t2 fun v => k v w) w fun t12 w =>
  gd t8 true (fun k => binQ Tryd.prog w .leq 3 false t11 t12 fun v => k v w) w fun t13 w =>
  pickQ t8 t13 (.bool false) fun t14 =>
  gd t14 true (fun k => ld1 w t2 fun v => k v w) w fun t16 w =>
  gd t14 true (fun k => fa1 t3 2 fun v => k v w) w fun t17 w =>
  gd t14 true (fun k => ld1 w t17 fun v => k v w) w fun t18 w =>
  gd t14 true (fun k => binQ Tryd.prog w .leq 3 false t16 t18 fun v => k v w) w fun t19 w =>
  pickQ t14 t19 (.bool false) fun t20 =>
  R (.returned t20) w

def A49 : Ann where
  live := fun _ => []
  wr := fun _ _ => false
  sched := fun _ => .done

set_option maxRecDepth 100000 in
theorem ok49 : (codeOk Tryd.f49.ntmps A49 (Tryd.f49.body.getD .skip) 0 && Nat.ble 3 Tryd.f49.ntmps) = true := by kernel_rfl
set_option maxRecDepth 100000 in
theorem lift49 {t0 t1 t2 : Value} {w : World} {R : Ending → World → Prop} (h : S49 t0 t1 t2 w R) : Calls Tryd.prog 49 #[t0, t1, t2] w R :=
  calls_of_cw (fn := Tryd.f49) (c := Tryd.f49.body.getD .skip) A49 mixes Tryd.func49 (by kernel_rfl) ok49
    ((by kernel_rfl : (S49 t0 t1 t2 w R) = cw Tryd.prog A49 (Tryd.f49.body.getD .skip) 0 (bodyQ Tryd.prog Tryd.f49 R) (frOf #[t0, t1, t2]) w).mp h)

def S50 (t0 t1 : Value) (w : World) (R : Ending → World → Prop) : Prop :=
  boxW 71 t0 w fun t2 w =>
  ldN 3 w t2 fun t4 =>
  ldN 3 w t1 fun t5 =>
  binQ Tryd.prog w .eql 71 false t4 t5 fun t6 =>
  R (.returned t6) w

def A50 : Ann where
  live := fun _ => []
  wr := fun _ _ => false
  sched := fun _ => .done

set_option maxRecDepth 100000 in
theorem ok50 : (codeOk Tryd.f50.ntmps A50 (Tryd.f50.body.getD .skip) 0 && Nat.ble 2 Tryd.f50.ntmps) = true := by kernel_rfl
set_option maxRecDepth 100000 in
theorem lift50 {t0 t1 : Value} {w : World} {R : Ending → World → Prop} (h : S50 t0 t1 w R) : Calls Tryd.prog 50 #[t0, t1] w R :=
  calls_of_cw (fn := Tryd.f50) (c := Tryd.f50.body.getD .skip) A50 mixes Tryd.func50 (by kernel_rfl) ok50
    ((by kernel_rfl : (S50 t0 t1 w R) = cw Tryd.prog A50 (Tryd.f50.body.getD .skip) 0 (bodyQ Tryd.prog Tryd.f50 R) (frOf #[t0, t1]) w).mp h)

def S47 (t0 t1 t2 : Value) (w : World) (R : Ending → World → Prop) : Prop :=
  boxW 3 t0 w fun t3 w =>
  boxW 3 t1 w fun t4 w =>
  Drew w fun w =>
  Join (fun (k_2 : Value → World → Prop) =>
    ld1 w t2 fun t7 =>
    ld1 w t2 fun t8 =>
    And (
      callW Tryd.prog (.func (.func 48) #[] #[]) [t8, (.func (.func 49) #[] #[t3, t4])] w <| keepB w fun t10 w =>
      iaS 3 t7 t10 fun t11 =>
      ldN 3 w t11 fun t12 =>
      boxW 71 (.agg #[(.int .i64 0), (.int .i64 0), (.int .i64 0)]) w <| keepB w fun t6_2 w =>
      stW Tryd.prog 71 t6_2 t12 w fun w =>
      k_2 t6_2 w
    ) <|
    And (
      boxW 71 (.agg #[(.int .i64 0), (.int .i64 0), (.int .i64 0)]) w <| keepB w fun t6_3 w =>
      callW Tryd.prog (.func (.func 48) #[] #[]) [t8, (.func (.func 49) #[] #[t3, t4])] w <| keepB w fun t10_2 w =>
      iaS 3 t7 t10_2 fun t11_2 =>
      ldN 3 w t11_2 fun t12_2 =>
      stW Tryd.prog 71 t6_3 t12_2 w fun w =>
      k_2 t6_3 w
    ) <|
    True
  ) fun t6 w =>
  ld1 w t2 fun t13 =>
  callW Tryd.prog (.func (.func 48) #[] #[]) [t13, (.func (.func 50) #[] #[t6])] w fun t15 w =>
  R (.returned t15) w

def A47 : Ann where
  live := fun _ => []
  wr := fun _ _ => false
  sched := fun
    | 1 => (.take 0 (.take 1 (.take 2 (.alt 3 (.take 4 (.take 5 (.eff 6 (.bar 7 .done)))) (.alt 6 (.eff 3 (.take 4 (.take 5 (.bar 7 .done)))) .nomore)))))
    | _ => .done

set_option maxRecDepth 100000 in
theorem ok47 : (codeOk Tryd.f47.ntmps A47 (Tryd.f47.body.getD .skip) 0 && Nat.ble 3 Tryd.f47.ntmps) = true := by kernel_rfl
set_option maxRecDepth 100000 in
theorem lift47 {t0 t1 t2 : Value} {w : World} {R : Ending → World → Prop} (h : S47 t0 t1 t2 w R) : Calls Tryd.prog 47 #[t0, t1, t2] w R :=
  calls_of_cw (fn := Tryd.f47) (c := Tryd.f47.body.getD .skip) A47 mixes Tryd.func47 (by kernel_rfl) ok47
    ((by kernel_rfl : (S47 t0 t1 t2 w R) = cw Tryd.prog A47 (Tryd.f47.body.getD .skip) 0 (bodyQ Tryd.prog Tryd.f47 R) (frOf #[t0, t1, t2]) w).mp h)

def S17L0 (t2 t11 t37 : Value) (R : Ending → World → Prop) (w : World) : Prop :=
  Loop2 (.slice none 0 0) (.int .i64 0) w fun _ t13 t38 w next =>
    binQ Tryd.prog w .lss 3 false t38 t37 fun t39 =>
    condW t39 (
      iaS 3 t2 t38 fun t40 =>
      ldN 3 w t40 fun t41 =>
      boxW 44 (.agg #[(.int .i64 0), (.int .i64 0), (.int .i64 0)]) w fun t15 w =>
      stW Tryd.prog 44 t15 t41 w fun w =>
      Drew w fun w =>
      fa1 t15 1 fun t44 =>
      ld1 w t44 fun t45 =>
      fa1 t15 0 fun t46 =>
      ld1 w t46 fun t47 =>
      fa1 t15 1 fun t50 =>
      ld1 w t50 fun t51 =>
      fa1 t15 2 fun t52 =>
      ld1 w t52 fun t53 =>
      binQ Tryd.prog w .add 3 false t51 t53 fun t54 =>
      fa1 t15 0 fun t55 =>
      ld1 w t55 fun t56 =>
      callW Tryd.prog (.func (.func 47) #[] #[t11]) [t45, t47] w <| keepB w fun t48 w =>
      callW Tryd.prog (.func (.func 47) #[] #[t11]) [t54, t56] w <| keepB w fun t57 w =>
      bdQ Tryd.prog 40 [(0, t48), (1, t57)] fun t58 =>
      bsW Tryd.prog 27 1 [(0, t58)] w <| keepB w fun t59 w =>
      semW Tryd.prog (apS [27, 27] 27 [t13, t59]) w fun t60 w =>
      binQ Tryd.prog w .add 3 true t38 (.int .i64 1) fun t61 =>
      next t60 t61 w
    ) (
      ld1 w t11 fun t62 =>
      ln1 t62 fun t63 =>
      R (.returned (.tuple #[t63, t13, (.int .i64 0)])) w
    )

def S17 (t0 t1 t2 : Value) (w : World) (R : Ending → World → Prop) : Prop :=
  callW Tryd.prog (.func (.func 15) #[] #[]) [t0, t1, t2] w fun t20 w =>
  exQ t20 0 fun t21 =>
  exQ t20 1 fun t22 =>
  binQ Tryd.prog w .neq 24 true t22 (.int .i64 0) fun t25 =>
  condW t25 (
    R (.returned (.tuple #[(.int .i64 0), (.slice none 0 0), t22])) w
  ) (
    unQ .not t21 fun t29 =>
    condW t29 (
      R (.returned (.tuple #[(.int .i64 0), (.slice none 0 0), (.int .i64 10)])) w
    ) (
      callW Tryd.prog (.func (.func 46) #[] #[]) [t2] w fun t31 w =>
      boxW 68 (.slice none 0 0) w fun t11 w =>
      stW Tryd.prog 68 t11 t31 w fun w =>
      ld1 w t11 fun t32 =>
      ln1 t32 fun t33 =>
      binQ Tryd.prog w .gtr 3 true t33 (.int .i64 8) fun t34 =>
      condW t34 (
        R (.returned (.tuple #[(.int .i64 0), (.slice none 0 0), (.int .i64 8)])) w
      ) (
        ln1 t2 fun t37 =>
        S17L0 t2 t11 t37 R w
      )
    )
  )

def A17 : Ann where
  live := fun
    | 1 => [13, 38]
    | _ => []
  wr := fun
    | 1 => fun i => Nat.beq i 13 || Nat.beq i 15 || (Nat.ble 38 i && Nat.ble i 61)
    | _ => fun _ => false
  sched := fun
    | 14 => (.take 0 (.take 1 (.take 2 (.take 3 (.take 4 (.take 5 (.take 7 (.take 8 (.take 9 (.take 10 (.take 11 (.take 12 (.take 13 (.take 14 (.eff 6 (.eff 15 (.take 16 (.eff 17 (.bar 18 (.take 19 .done))))))))))))))))))))
    | _ => .done

set_option maxRecDepth 100000 in
theorem ok17 : (codeOk Tryd.f17.ntmps A17 (Tryd.f17.body.getD .skip) 0 && Nat.ble 3 Tryd.f17.ntmps) = true := by kernel_rfl
set_option maxRecDepth 100000 in
theorem lift17 {t0 t1 t2 : Value} {w : World} {R : Ending → World → Prop} (h : S17 t0 t1 t2 w R) : Calls Tryd.prog 17 #[t0, t1, t2] w R :=
  calls_of_cw (fn := Tryd.f17) (c := Tryd.f17.body.getD .skip) A17 mixes Tryd.func17 (by kernel_rfl) ok17
    ((by kernel_rfl : (S17 t0 t1 t2 w R) = cw Tryd.prog A17 (Tryd.f17.body.getD .skip) 0 (bodyQ Tryd.prog Tryd.f17 R) (frOf #[t0, t1, t2]) w).mp h)

def S34L0 (t0 t1 : Value) (R : Ending → World → Prop) (w : World) : Prop :=
  Loop3 (.slice none 0 0) (.int .i64 0) (.int .i64 0) w fun _ t6 t7 t8 w next =>
    binQ Tryd.prog w .lss 3 false t7 t0 fun t20 =>
    gd t20 true (fun k => k t8 w) w fun t22 w =>
    gd t20 true (fun k => k t1 w) w fun t23 w =>
    gd t20 true (fun k => binQ Tryd.prog w .lss 3 false t22 t23 fun v => k v w) w fun t24 w =>
    pickQ t20 t24 (.bool false) fun t25 =>
    condW t25 (
      ln1 t6 fun t27 =>
      binQ Tryd.prog w .eql 3 true t27 (.int .i64 16) fun t28 =>
      condW t28 (
        R (.returned (.tuple #[(.slice none 0 0), (.int .i64 8)])) w
      ) (
        binQ Tryd.prog w .sub 3 false t0 t7 fun t31 =>
        binQ Tryd.prog w .sub 3 false t1 t8 fun t34 =>
        mnQ false [t31, t34] fun t35 =>
        bdQ Tryd.prog 44 [(0, t7), (1, t8), (2, t35)] fun t40 =>
        bsW Tryd.prog 22 1 [(0, t40)] w fun t41 w =>
        semW Tryd.prog (apS [22, 22] 22 [t6, t41]) w fun t42 w =>
        binQ Tryd.prog w .sub 3 false t0 t7 fun t45 =>
        binQ Tryd.prog w .sub 3 false t1 t8 fun t48 =>
        binQ Tryd.prog w .gtr 3 false t45 t48 fun t49 =>
        condW t49 (
          binQ Tryd.prog w .add 3 false t7 t35 fun t52 =>
          next t42 t52 t8 w
        ) (
          binQ Tryd.prog w .add 3 false t8 t35 fun t55 =>
          next t42 t7 t55 w
        )
      )
    ) (
      R (.returned (.tuple #[t6, (.int .i64 0)])) w
    )

def S34 (t0 t1 : Value) (w : World) (R : Ending → World → Prop) : Prop :=
  callW Tryd.prog (.func (.func 42) #[] #[]) [t0] w fun t11 w =>
  unQ .not t11 fun t12 =>
  gd t12 false (fun k => k t1 w) w fun t14 w =>
  gd t12 false (fun k => callW Tryd.prog (.func (.func 42) #[] #[]) [t14] w k) w fun t15 w =>
  gd t12 false (fun k => unQ .not t15 fun v => k v w) w fun t16 w =>
  pickQ t12 (.bool true) t16 fun t17 =>
  condW t17 (
    R (.returned (.tuple #[(.slice none 0 0), (.int .i64 2)])) w
  ) (
    S34L0 t0 t1 R w
  )

def A34 : Ann where
  live := fun
    | 0 => [6, 7, 8]
    | _ => []
  wr := fun
    | 0 => fun i => (Nat.ble 4 i && Nat.ble i 9) || (Nat.ble 18 i && Nat.ble i 55)
    | _ => fun _ => false
  sched := fun _ => .done

set_option maxRecDepth 100000 in
theorem ok34 : (codeOk Tryd.f34.ntmps A34 (Tryd.f34.body.getD .skip) 0 && Nat.ble 2 Tryd.f34.ntmps) = true := by kernel_rfl
set_option maxRecDepth 100000 in
theorem lift34 {t0 t1 : Value} {w : World} {R : Ending → World → Prop} (h : S34 t0 t1 w R) : Calls Tryd.prog 34 #[t0, t1] w R :=
  calls_of_cw (fn := Tryd.f34) (c := Tryd.f34.body.getD .skip) A34 mixes Tryd.func34 (by kernel_rfl) ok34
    ((by kernel_rfl : (S34 t0 t1 w R) = cw Tryd.prog A34 (Tryd.f34.body.getD .skip) 0 (bodyQ Tryd.prog Tryd.f34 R) (frOf #[t0, t1]) w).mp h)

theorem fok42 : fnOk Tryd.prog 42 = true := by kernel_rfl
theorem fok64 : fnOk Tryd.prog 64 = true := by kernel_rfl
theorem fok43 : fnOk Tryd.prog 43 = true := by kernel_rfl
theorem fok15 : fnOk Tryd.prog 15 = true := by kernel_rfl
theorem fok68 : fnOk Tryd.prog 68 = true := by kernel_rfl
theorem fok82 : fnOk Tryd.prog 82 = true := by kernel_rfl
theorem fok67 : fnOk Tryd.prog 67 = true := by kernel_rfl
theorem fok66 : fnOk Tryd.prog 66 = true := by kernel_rfl
theorem fok46 : fnOk Tryd.prog 46 = true := by kernel_rfl
theorem fok48 : fnOk Tryd.prog 48 = true := by kernel_rfl
theorem fok49 : fnOk Tryd.prog 49 = true := by kernel_rfl
theorem fok50 : fnOk Tryd.prog 50 = true := by kernel_rfl
theorem fok47 : fnOk Tryd.prog 47 = true := by kernel_rfl
theorem fok17 : fnOk Tryd.prog 17 = true := by kernel_rfl
theorem fok34 : fnOk Tryd.prog 34 = true := by kernel_rfl
end Go.Proofs.YtkdcldbedbagjaaDoor

/- Squares and levels: triples of integers in memory; when squares are a dissection. Contracts: rect, fits, is, Is of the program. -/
namespace Go.Proofs.YtkdcldbedbagjaaDoor
open Go.Lf Go.RowKit Go.Dt

abbrev T3 := Int × Int × Int
def t3C (p : T3) : List Value := [.int .i64 p.1, .int .i64 p.2.1, .int .i64 p.2.2]
theorem t3C_len (p : T3) : (t3C p).length = 3 := rfl
abbrev t3V (p : T3) : Value := .agg #[.int .i64 p.1, .int .i64 p.2.1, .int .i64 p.2.2]
abbrev RdS (w : World) (v : Value) (l : List T3) : Prop := Rd 3 t3C w v l
theorem t3C_one (p : T3) : ∀ u ∈ t3C p, u.oneCell' = true := by
  intro u hu
  simp only [t3C, List.mem_cons, List.not_mem_nil, or_false] at hu
  rcases hu with rfl | rfl | rfl <;> rfl

theorem tri_at {w : World} {v : Value} {L : List T3} (h : RdS w v L) {i : Nat} (hi : i < L.length) : ∀ K : Value → Prop, (iaS 3 v (.int .i64 i) fun p => ldN 3 w p K) = K (t3V (L.getD i (0, 0, 0))) := fun K => by
  obtain ⟨b, off, cap, e, _, hc⟩ := h.at (List.getElem?_eq_getElem hi)
  have hii : (i : Int).toNat = i := by omega
  rw [e, r_iaS _ _ _ _ _ _ _ (by omega) (by omega), hii, r_ldCells (n := 3) (l := t3C L[i]) rfl hc, getD_lt _ _ _ hi]
  rfl
set_option maxRecDepth 100000 in
theorem st44 {w : World} {b : Nat} {x y z : Value} {p : T3} {K : World → Prop} (h : w.heap[b]? = some (.cells #[x, y, z] 44 (0, 0))) (hk : ∀ w', Chg (fun k => k = b) w w' → w'.heap.size = w.heap.size → w'.heap[b]? = some (.cells #[.int .i64 p.1, .int .i64 p.2.1, .int .i64 p.2.2] 44 (0, 0)) → K w') : stW Tryd.prog 44 (ptrV b) (t3V p) w K :=
  r_stAll (n := 3) (by kernel_rfl) rfl (by intro u hu; simp [Value.cells] at hu; rcases hu with rfl | rfl | rfl <;> rfl) h rfl fun w' h1 h2 h3 => hk w' h1 h2 h3
set_option maxRecDepth 100000 in
theorem st71 {w : World} {b : Nat} {x y z : Value} {p : T3} {K : World → Prop} (h : w.heap[b]? = some (.cells #[x, y, z] 71 (0, 0))) (hk : ∀ w', Chg (fun k => k = b) w w' → w'.heap.size = w.heap.size → w'.heap[b]? = some (.cells #[.int .i64 p.1, .int .i64 p.2.1, .int .i64 p.2.2] 71 (0, 0)) → K w') : stW Tryd.prog 71 (ptrV b) (t3V p) w K :=
  r_stAll (n := 3) (by kernel_rfl) rfl (by intro u hu; simp [Value.cells] at hu; rcases hu with rfl | rfl | rfl <;> rfl) h rfl fun w' h1 h2 h3 => hk w' h1 h2 h3
theorem tri_box {w : World} {b : Nat} {t : TypeId} {p : T3} (h : w.heap[b]? = some (.cells #[.int .i64 p.1, .int .i64 p.2.1, .int .i64 p.2.2] t (0, 0))) (K : Value → Prop) : ldN 3 w (ptrV b) K = K (t3V p) := r_ldRow h rfl
theorem tri_cells {w : World} {b : Nat} {t : TypeId} {p : T3} (h : w.heap[b]? = some (.cells #[.int .i64 p.1, .int .i64 p.2.1, .int .i64 p.2.2] t (0, 0))) : w.cell? ⟨b, 0 + 0, none⟩ = some (.int .i64 p.1) ∧ w.cell? ⟨b, 0 + 1, none⟩ = some (.int .i64 p.2.1) ∧ w.cell? ⟨b, 0 + 2, none⟩ = some (.int .i64 p.2.2) :=
  ⟨by rw [cell_row h]; rfl, by rw [cell_row h]; rfl, by rw [cell_row h]; rfl⟩

/-! ### dissections -/
def rectB (n : Int) : Bool := decide (1 ≤ n ∧ n ≤ 1000)
def fitsB (w h : Int) (s : T3) : Bool := decide (1 ≤ s.2.2 ∧ s.2.2 ≤ w ∧ s.2.2 ≤ h ∧ 0 ≤ s.1 ∧ 0 ≤ s.2.1 ∧ s.1 ≤ w - s.2.2 ∧ s.2.1 ≤ h - s.2.2)
def overB (s o : T3) : Bool := decide (s.1 < o.1 + o.2.2 ∧ o.1 < s.1 + s.2.2 ∧ s.2.1 < o.2.1 + o.2.2 ∧ o.2.1 < s.2.1 + s.2.2)
def area : List T3 → Int
  | [] => 0
  | s :: l => s.2.2 * s.2.2 + area l
def stepB (w h : Int) (L : List T3) (i : Nat) : Bool := fitsB w h (L.getD i (0, 0, 0)) && (L.take i).all fun o => !overB (L.getD i (0, 0, 0)) o
def isB (w h : Int) (L : List T3) : Bool := ((List.range L.length).all fun i => stepB w h L i) && decide (area L = w * h)

theorem area_snoc : ∀ (l : List T3) (s : T3), area (l ++ [s]) = area l + s.2.2 * s.2.2
  | [], s => by simp [area]
  | a :: l, s => by simp only [List.cons_append, area]; rw [area_snoc l s]; omega
theorem isB_bad {w h : Int} {L : List T3} {i : Nat} (hi : i < L.length) (hb : stepB w h L i = false) : isB w h L = false := by
  have : ((List.range L.length).all fun i => stepB w h L i) = false := by
    rw [← Bool.not_eq_true, List.all_eq_true]
    intro h
    rw [h i (List.mem_range.2 hi)] at hb; cases hb
  unfold isB; rw [this]; rfl
theorem isB_good {w h : Int} {L : List T3} (hb : ∀ i, i < L.length → stepB w h L i = true) : isB w h L = decide (area L = w * h) := by
  have : ((List.range L.length).all fun i => stepB w h L i) = true := List.all_eq_true.2 fun i hi => hb i (List.mem_range.1 hi)
  unfold isB; rw [this]; rfl
theorem fits_iff {w h : Int} {s : T3} : fitsB w h s = true ↔ 1 ≤ s.2.2 ∧ s.2.2 ≤ w ∧ s.2.2 ≤ h ∧ 0 ≤ s.1 ∧ 0 ≤ s.2.1 ∧ s.1 ≤ w - s.2.2 ∧ s.2.1 ≤ h - s.2.2 := decide_eq_true_iff
theorem step_fits {w h : Int} {L : List T3} {i : Nat} (hb : stepB w h L i = true) : fitsB w h (L.getD i (0, 0, 0)) = true := by
  unfold stepB at hb; rw [Bool.and_eq_true] at hb; exact hb.1
theorem sq_le {a b : Int} (h0 : 0 ≤ a) (h : a ≤ b) : 0 ≤ a * a ∧ a * a ≤ b * b := ⟨Int.mul_nonneg h0 h0, Int.mul_le_mul h h h0 (Int.le_trans h0 h)⟩
theorem area_small {w h : Int} {L : List T3} (hw : w ≤ 1000) : ∀ {i : Nat}, i ≤ L.length → (∀ k, k < i → stepB w h L k = true) → 0 ≤ area (L.take i) ∧ area (L.take i) ≤ i * 1000000
  | 0, _, _ => by simp [area]
  | i + 1, hi, hb => by
    have h1 := area_small hw (i := i) (by omega) fun k hk => hb k (by omega)
    have h2 := fits_iff.1 (step_fits (hb i (by omega)))
    rw [take_succ' _ _ (by omega), area_snoc, ← getD_lt _ _ (0, 0, 0) (by omega)]
    have h3 := sq_le (a := (L.getD i (0, 0, 0)).2.2) (b := 1000) (by omega) (by omega)
    omega

set_option maxRecDepth 100000 in
theorem rect_calls (n : Int) (w : World) : Calls Tryd.prog 42 #[.int .i64 n] w fun e w' => e = .returned (.bool (rectB n)) ∧ w = w' := by
  refine lift42 ?_
  unfold S42
  by_cases h1 : 1 ≤ n
  · by_cases h2 : n ≤ 1000
    · have hE : rectB n = true := decide_eq_true ⟨h1, h2⟩
      rw [hE]
      simp (disch := omega) only [r_ln, r_pick, r_pickT, r_pickF, r_condT, r_condF, r_gdTT, r_gdFF, r_gdTF, r_gdFT, r_gqTT, r_gqFF, r_gqTF, r_gqFT, r_not, r_lss, r_leq, r_gtr, r_geq, r_eql, r_neq, r_add, r_sub, r_min2, r_max2, r_min3, r_max3, r_fa, r_iaS, r_iaA, r_ex2a, r_ex2b, r_ex3a, r_ex3b, r_ex3c, r_nc, r_keepE, Nat.zero_add, Nat.add_zero, Nat.mul_one, Int.toNat_natCast, toNat_sub1, toNat_add1, decide_true, decide_false, Bool.not_true, Bool.not_false, if_true, if_false, Bool.false_eq_true, reduceCtorEq, decide_eq_true h1, decide_eq_true h2]
      exact ⟨by first | rfl | trivial, by first | rfl | trivial⟩
    · have hE : rectB n = false := decide_eq_false fun h => h2 h.2
      rw [hE]
      simp (disch := omega) only [r_ln, r_pick, r_pickT, r_pickF, r_condT, r_condF, r_gdTT, r_gdFF, r_gdTF, r_gdFT, r_gqTT, r_gqFF, r_gqTF, r_gqFT, r_not, r_lss, r_leq, r_gtr, r_geq, r_eql, r_neq, r_add, r_sub, r_min2, r_max2, r_min3, r_max3, r_fa, r_iaS, r_iaA, r_ex2a, r_ex2b, r_ex3a, r_ex3b, r_ex3c, r_nc, r_keepE, Nat.zero_add, Nat.add_zero, Nat.mul_one, Int.toNat_natCast, toNat_sub1, toNat_add1, decide_true, decide_false, Bool.not_true, Bool.not_false, if_true, if_false, Bool.false_eq_true, reduceCtorEq, decide_eq_true h1, h2]
      exact ⟨by first | rfl | trivial, by first | rfl | trivial⟩
  · have hE : rectB n = false := decide_eq_false fun h => h1 h.1
    rw [hE]
    simp (disch := omega) only [r_ln, r_pick, r_pickT, r_pickF, r_condT, r_condF, r_gdTT, r_gdFF, r_gdTF, r_gdFT, r_gqTT, r_gqFF, r_gqTF, r_gqFT, r_not, r_lss, r_leq, r_gtr, r_geq, r_eql, r_neq, r_add, r_sub, r_min2, r_max2, r_min3, r_max3, r_fa, r_iaS, r_iaA, r_ex2a, r_ex2b, r_ex3a, r_ex3b, r_ex3c, r_nc, r_keepE, Nat.zero_add, Nat.add_zero, Nat.mul_one, Int.toNat_natCast, toNat_sub1, toNat_add1, decide_true, decide_false, Bool.not_true, Bool.not_false, if_true, if_false, Bool.false_eq_true, reduceCtorEq, h1, r_gdU]
    exact ⟨by first | rfl | trivial, by first | rfl | trivial⟩

set_option maxRecDepth 100000 in
set_option maxHeartbeats 1000000 in
theorem fits_calls {W H : Int} {s : T3} (w : World) (hW : rectB W = true) (hH : rectB H = true) : Calls Tryd.prog 64 #[.int .i64 W, .int .i64 H, t3V s] w fun e w' => e = .returned (.bool (fitsB W H s)) ∧ Kp w w' := by
  have hW := of_decide_eq_true hW
  have hH := of_decide_eq_true hH
  refine lift64 ?_
  unfold S64
  refine r_box fun b5 w1 e5 s5 h5 k1 => ?_
  obtain ⟨c0, c1, c2⟩ := tri_cells (p := s) h5
  have mn : ∀ K : Value → Prop, mnQ false [.int .i64 W, .int .i64 H] K = K (.int .i64 (min W H)) := fun K => r_min2 _ _ _
  by_cases g1 : 1 ≤ s.2.2
  case neg =>
    simp (disch := omega) only [r_ln, r_pick, r_pickT, r_pickF, r_condT, r_condF, r_gdTT, r_gdFF, r_gdTF, r_gdFT, r_gqTT, r_gqFF, r_gqTF, r_gqFT, r_not, r_lss, r_leq, r_gtr, r_geq, r_eql, r_neq, r_add, r_sub, r_min2, r_max2, r_min3, r_max3, r_fa, r_iaS, r_iaA, r_ex2a, r_ex2b, r_ex3a, r_ex3b, r_ex3c, r_nc, r_keepE, Nat.zero_add, Nat.add_zero, Nat.mul_one, Int.toNat_natCast, toNat_sub1, toNat_add1, decide_true, decide_false, Bool.not_true, Bool.not_false, if_true, if_false, Bool.false_eq_true, reduceCtorEq, r_gdU, r_ld c2, g1]
    exact ⟨ret_bool (decide_eq_false fun h => g1 h.1).symm, k1⟩
  by_cases g2 : s.2.2 ≤ min W H
  case neg =>
    simp (disch := omega) only [r_ln, r_pick, r_pickT, r_pickF, r_condT, r_condF, r_gdTT, r_gdFF, r_gdTF, r_gdFT, r_gqTT, r_gqFF, r_gqTF, r_gqFT, r_not, r_lss, r_leq, r_gtr, r_geq, r_eql, r_neq, r_add, r_sub, r_min2, r_max2, r_min3, r_max3, r_fa, r_iaS, r_iaA, r_ex2a, r_ex2b, r_ex3a, r_ex3b, r_ex3c, r_nc, r_keepE, Nat.zero_add, Nat.add_zero, Nat.mul_one, Int.toNat_natCast, toNat_sub1, toNat_add1, decide_true, decide_false, Bool.not_true, Bool.not_false, if_true, if_false, Bool.false_eq_true, reduceCtorEq, r_gdU, r_ld c2, decide_eq_true g1, g2]
    exact ⟨ret_bool (decide_eq_false fun h => by omega).symm, k1⟩
  by_cases g3 : 0 ≤ s.1
  case neg =>
    simp (disch := omega) only [r_ln, r_pick, r_pickT, r_pickF, r_condT, r_condF, r_gdTT, r_gdFF, r_gdTF, r_gdFT, r_gqTT, r_gqFF, r_gqTF, r_gqFT, r_not, r_lss, r_leq, r_gtr, r_geq, r_eql, r_neq, r_add, r_sub, r_min2, r_max2, r_min3, r_max3, r_fa, r_iaS, r_iaA, r_ex2a, r_ex2b, r_ex3a, r_ex3b, r_ex3c, r_nc, r_keepE, Nat.zero_add, Nat.add_zero, Nat.mul_one, Int.toNat_natCast, toNat_sub1, toNat_add1, decide_true, decide_false, Bool.not_true, Bool.not_false, if_true, if_false, Bool.false_eq_true, reduceCtorEq, r_gdU, r_ld c2, r_ld c0, decide_eq_true g1, decide_eq_true g2, g3]
    exact ⟨ret_bool (decide_eq_false fun h => by omega).symm, k1⟩
  by_cases g4 : 0 ≤ s.2.1
  case neg =>
    simp (disch := omega) only [r_ln, r_pick, r_pickT, r_pickF, r_condT, r_condF, r_gdTT, r_gdFF, r_gdTF, r_gdFT, r_gqTT, r_gqFF, r_gqTF, r_gqFT, r_not, r_lss, r_leq, r_gtr, r_geq, r_eql, r_neq, r_add, r_sub, r_min2, r_max2, r_min3, r_max3, r_fa, r_iaS, r_iaA, r_ex2a, r_ex2b, r_ex3a, r_ex3b, r_ex3c, r_nc, r_keepE, Nat.zero_add, Nat.add_zero, Nat.mul_one, Int.toNat_natCast, toNat_sub1, toNat_add1, decide_true, decide_false, Bool.not_true, Bool.not_false, if_true, if_false, Bool.false_eq_true, reduceCtorEq, r_gdU, r_ld c2, r_ld c0, r_ld c1, decide_eq_true g1, decide_eq_true g2, decide_eq_true g3, g4]
    exact ⟨ret_bool (decide_eq_false fun h => by omega).symm, k1⟩
  by_cases g5 : s.1 ≤ W - s.2.2
  case neg =>
    simp (disch := omega) only [r_ln, r_pick, r_pickT, r_pickF, r_condT, r_condF, r_gdTT, r_gdFF, r_gdTF, r_gdFT, r_gqTT, r_gqFF, r_gqTF, r_gqFT, r_not, r_lss, r_leq, r_gtr, r_geq, r_eql, r_neq, r_add, r_sub, r_min2, r_max2, r_min3, r_max3, r_fa, r_iaS, r_iaA, r_ex2a, r_ex2b, r_ex3a, r_ex3b, r_ex3c, r_nc, r_keepE, Nat.zero_add, Nat.add_zero, Nat.mul_one, Int.toNat_natCast, toNat_sub1, toNat_add1, decide_true, decide_false, Bool.not_true, Bool.not_false, if_true, if_false, Bool.false_eq_true, reduceCtorEq, r_gdU, r_ld c2, r_ld c0, r_ld c1, decide_eq_true g1, decide_eq_true g2, decide_eq_true g3, decide_eq_true g4, g5]
    exact ⟨ret_bool (decide_eq_false fun h => by omega).symm, k1⟩
  by_cases g6 : s.2.1 ≤ H - s.2.2
  · simp (disch := omega) only [r_ln, r_pick, r_pickT, r_pickF, r_condT, r_condF, r_gdTT, r_gdFF, r_gdTF, r_gdFT, r_gqTT, r_gqFF, r_gqTF, r_gqFT, r_not, r_lss, r_leq, r_gtr, r_geq, r_eql, r_neq, r_add, r_sub, r_min2, r_max2, r_min3, r_max3, r_fa, r_iaS, r_iaA, r_ex2a, r_ex2b, r_ex3a, r_ex3b, r_ex3c, r_nc, r_keepE, Nat.zero_add, Nat.add_zero, Nat.mul_one, Int.toNat_natCast, toNat_sub1, toNat_add1, decide_true, decide_false, Bool.not_true, Bool.not_false, if_true, if_false, Bool.false_eq_true, reduceCtorEq, r_gdU, r_ld c2, r_ld c0, r_ld c1, decide_eq_true g1, decide_eq_true g2, decide_eq_true g3, decide_eq_true g4, decide_eq_true g5, decide_eq_true g6]
    exact ⟨ret_bool (decide_eq_true (by omega)).symm, k1⟩
  · simp (disch := omega) only [r_ln, r_pick, r_pickT, r_pickF, r_condT, r_condF, r_gdTT, r_gdFF, r_gdTF, r_gdFT, r_gqTT, r_gqFF, r_gqTF, r_gqFT, r_not, r_lss, r_leq, r_gtr, r_geq, r_eql, r_neq, r_add, r_sub, r_min2, r_max2, r_min3, r_max3, r_fa, r_iaS, r_iaA, r_ex2a, r_ex2b, r_ex3a, r_ex3b, r_ex3c, r_nc, r_keepE, Nat.zero_add, Nat.add_zero, Nat.mul_one, Int.toNat_natCast, toNat_sub1, toNat_add1, decide_true, decide_false, Bool.not_true, Bool.not_false, if_true, if_false, Bool.false_eq_true, reduceCtorEq, r_gdU, r_ld c2, r_ld c0, r_ld c1, decide_eq_true g1, decide_eq_true g2, decide_eq_true g3, decide_eq_true g4, decide_eq_true g5, g6]
    exact ⟨ret_bool (decide_eq_false fun h => by omega).symm, k1⟩

theorem Rd.to {α : Type} {m : Nat} {enc : α → List Value} {w : World} {v : Value} {l : List α} (h : Rd m enc w v l) {i : Nat} (hi : i ≤ l.length) :
    ∃ u, (∀ K : Value → Prop, slS m v none (some (.int .i64 i)) K = K u) ∧ (∀ K : Value → Prop, ln1 u K = K (.int .i64 i)) ∧ Rd m enc w u (l.take i) := by
  obtain ⟨a, c, e, hc⟩ := h.len
  rw [e] at h
  have hii : (i : Int).toNat = i := by omega
  exact ⟨.slice a i c, fun K => by rw [e, r_slTo (by omega) (by omega), hii], fun K => rfl, h.take hi⟩

set_option maxRecDepth 100000 in
set_option maxHeartbeats 2000000 in
theorem r43_1 {W H : Int} {L : List T3} {i b9 : Nat} {A : Int} {t26 : Value} {w0 : World} {next : Value → Value → World → Prop} {R : Ending → World → Prop} (hW : rectB W = true) (hH : rectB H = true) (hi : i < L.length) (hl : L.length ≤ 16) (hr : RdS w0 t26 (L.take i)) (hb : ∀ k, k < i → stepB W H L k = true) (hf : fitsB W H (L.getD i (0, 0, 0)) = true)
    (h9 : w0.heap[b9]? = some (.cells #[.int .i64 (L.getD i (0, 0, 0)).1, .int .i64 (L.getD i (0, 0, 0)).2.1, .int .i64 (L.getD i (0, 0, 0)).2.2] 44 (0, 0))) (hA : A = area (L.take i))
    (hnext : ∀ w', Kp w0 w' → stepB W H L i = true → next (.int .i64 (area (L.take (i + 1)))) (.int .i64 ((i : Int) + 1)) w') (hR : ∀ w', Kp w0 w' → stepB W H L i = false → R (.returned (.bool false)) w') :
    S43L1 (.int .i64 A) (ptrV b9) (.int .i64 i) t26 (.int .i64 i) next R w0 := by
  have hW' := of_decide_eq_true hW
  have hH' := of_decide_eq_true hH
  have hf' := fits_iff.1 hf
  have hlt0 : (L.take i).length = i := by rw [List.length_take]; omega
  unfold S43L1
  refine ⟨fun t wr => ∃ k : Nat, k ≤ i ∧ t = .int .i64 k ∧ (∀ o ∈ L.take k, overB (L.getD i (0, 0, 0)) o = false) ∧ Kp w0 wr, fun t _ => i - (intOf t).toNat, ⟨0, by omega, rfl, by simp, Kp.refl _⟩, ?_⟩
  rintro _ _ wr ⟨k, hk, rfl, hno, kr⟩
  have h9r := block_below h9 kr
  by_cases hlt : k < i
  case neg =>
    have hlt' : ¬ (k : Int) < (i : Int) := by omega
    obtain rfl : k = i := by omega
    have hst : stepB W H L k = true := by
      unfold stepB
      rw [hf, Bool.true_and, List.all_eq_true]
      intro o ho
      rw [hno o ho]; rfl
    have hsm := area_small (L := L) (h := H) (i := k) (w := W) hW'.2 (by omega) hb
    have hsn : area (L.take (k + 1)) = A + (L.getD k (0, 0, 0)).2.2 * (L.getD k (0, 0, 0)).2.2 := by
      rw [take_succ' _ _ hi, area_snoc, hA, ← getD_lt _ _ (0, 0, 0) hi]
    obtain ⟨c0, c1, c2⟩ := tri_cells (p := L.getD k (0, 0, 0)) h9r
    have h3 := sq_le (a := (L.getD k (0, 0, 0)).2.2) (b := 1000) (by omega) (by omega)
    simp only [r_lss, hlt', decide_false, r_condF]
    rw [r_fa, r_ld c2, r_fa, r_ld c2, r_mul _ _ (by omega) (by omega), r_add _ _ (by omega) (by omega), r_add _ _ (by omega) (by omega), ← hsn]
    exact hnext wr kr hst
  have hlt' : (k : Int) < (i : Int) := by omega
  simp only [r_lss, decide_eq_true hlt', r_condT]
  have hgk : (L.take i).getD k (0, 0, 0) = L.getD k (0, 0, 0) := by
    rw [List.getD_eq_getElem?_getD, List.getElem?_take, if_pos hlt, ← List.getD_eq_getElem?_getD]
  rw [tri_at (hr.kp kr) (by omega), hgk]
  have hfk := fits_iff.1 (step_fits (hb k hlt))
  refine r_box fun b11 w1 e11 s11 h11 k1 => ?_
  have h11' : w1.heap[b11]? = some (.cells #[.int .i64 0, .int .i64 0, .int .i64 0] 44 (0, 0)) := h11
  refine st44 h11' fun w2 c2 s2 h112 => ?_
  have k2 : Kp wr w2 := Kp.of_chg k1 c2 fun q e => by omega
  have h92 := block_below h9r k2
  obtain ⟨s0, s1, ss⟩ := tri_cells (p := L.getD i (0, 0, 0)) h92
  obtain ⟨o0, o1, oo⟩ := tri_cells (p := L.getD k (0, 0, 0)) h112
  have k02 := Kp.trans kr k2
  have fin : ∀ b : Bool, b = overB (L.getD i (0, 0, 0)) (L.getD k (0, 0, 0)) → condW (.bool b) (R (.returned (.bool false)) w2) (binQ Tryd.prog w2 .add 3 true (.int .i64 k) (.int .i64 1) fun t70 => (∃ k : Nat, k ≤ i ∧ t70 = .int .i64 k ∧ (∀ o ∈ L.take k, overB (L.getD i (0, 0, 0)) o = false) ∧ Kp w0 w2) ∧ i - (intOf t70).toNat < i - (intOf (.int .i64 (k : Int))).toNat) := fun b hbb => by
    cases hov : overB (L.getD i (0, 0, 0)) (L.getD k (0, 0, 0)) with
    | true =>
      rw [hbb, hov, r_condT]
      refine hR w2 k02 ?_
      unfold stepB
      have : ((L.take i).all fun o => !overB (L.getD i (0, 0, 0)) o) = false := by
        rw [← Bool.not_eq_true, List.all_eq_true]
        intro h
        have := h _ (getD_mem (i := k) (d := (0, 0, 0)) (by omega))
        rw [hgk, hov] at this; cases this
      rw [this, Bool.and_false]
    | false =>
      rw [hbb, hov, r_condF, r_add _ _ (by omega) (by omega)]
      refine ⟨⟨k + 1, by omega, by go_num, fun o ho => ?_, k02⟩, by simp only [intOf]; omega⟩
      rw [take_succ' _ _ (by omega)] at ho
      rcases List.mem_append.1 ho with h | h
      · exact hno o h
      · simp at h
        rw [h, ← getD_lt _ _ (0, 0, 0) (by omega)]; exact hov
  clear hnext hR
  generalize L.getD i (0, 0, 0) = s at *
  generalize L.getD k (0, 0, 0) = o at *
  by_cases g1 : s.1 < o.1 + o.2.2
  case neg =>
    have := fin false (decide_eq_false fun h => g1 h.1).symm
    simp (disch := omega) only [r_ln, r_pick, r_pickT, r_pickF, r_condT, r_condF, r_gdTT, r_gdFF, r_gdTF, r_gdFT, r_gqTT, r_gqFF, r_gqTF, r_gqFT, r_not, r_lss, r_leq, r_gtr, r_geq, r_eql, r_neq, r_add, r_sub, r_min2, r_max2, r_min3, r_max3, r_fa, r_iaS, r_iaA, r_ex2a, r_ex2b, r_ex3a, r_ex3b, r_ex3c, r_nc, r_keepE, Nat.zero_add, Nat.add_zero, Nat.mul_one, Int.toNat_natCast, toNat_sub1, toNat_add1, decide_true, decide_false, Bool.not_true, Bool.not_false, if_true, if_false, Bool.false_eq_true, reduceCtorEq, r_gdU, r_ld s0, r_ld o0, r_ld oo, g1] at this ⊢
    exact this
  by_cases g2 : o.1 < s.1 + s.2.2
  case neg =>
    have := fin false (decide_eq_false fun h => g2 h.2.1).symm
    simp (disch := omega) only [r_ln, r_pick, r_pickT, r_pickF, r_condT, r_condF, r_gdTT, r_gdFF, r_gdTF, r_gdFT, r_gqTT, r_gqFF, r_gqTF, r_gqFT, r_not, r_lss, r_leq, r_gtr, r_geq, r_eql, r_neq, r_add, r_sub, r_min2, r_max2, r_min3, r_max3, r_fa, r_iaS, r_iaA, r_ex2a, r_ex2b, r_ex3a, r_ex3b, r_ex3c, r_nc, r_keepE, Nat.zero_add, Nat.add_zero, Nat.mul_one, Int.toNat_natCast, toNat_sub1, toNat_add1, decide_true, decide_false, Bool.not_true, Bool.not_false, if_true, if_false, Bool.false_eq_true, reduceCtorEq, r_gdU, r_ld s0, r_ld o0, r_ld oo, r_ld ss, decide_eq_true g1, g2] at this ⊢
    exact this
  by_cases g3 : s.2.1 < o.2.1 + o.2.2
  case neg =>
    have := fin false (decide_eq_false fun h => g3 h.2.2.1).symm
    simp (disch := omega) only [r_ln, r_pick, r_pickT, r_pickF, r_condT, r_condF, r_gdTT, r_gdFF, r_gdTF, r_gdFT, r_gqTT, r_gqFF, r_gqTF, r_gqFT, r_not, r_lss, r_leq, r_gtr, r_geq, r_eql, r_neq, r_add, r_sub, r_min2, r_max2, r_min3, r_max3, r_fa, r_iaS, r_iaA, r_ex2a, r_ex2b, r_ex3a, r_ex3b, r_ex3c, r_nc, r_keepE, Nat.zero_add, Nat.add_zero, Nat.mul_one, Int.toNat_natCast, toNat_sub1, toNat_add1, decide_true, decide_false, Bool.not_true, Bool.not_false, if_true, if_false, Bool.false_eq_true, reduceCtorEq, r_gdU, r_ld s0, r_ld o0, r_ld oo, r_ld ss, r_ld s1, r_ld o1, decide_eq_true g1, decide_eq_true g2, g3] at this ⊢
    exact this
  by_cases g4 : o.2.1 < s.2.1 + s.2.2
  case neg =>
    have := fin false (decide_eq_false fun h => g4 h.2.2.2).symm
    simp (disch := omega) only [r_ln, r_pick, r_pickT, r_pickF, r_condT, r_condF, r_gdTT, r_gdFF, r_gdTF, r_gdFT, r_gqTT, r_gqFF, r_gqTF, r_gqFT, r_not, r_lss, r_leq, r_gtr, r_geq, r_eql, r_neq, r_add, r_sub, r_min2, r_max2, r_min3, r_max3, r_fa, r_iaS, r_iaA, r_ex2a, r_ex2b, r_ex3a, r_ex3b, r_ex3c, r_nc, r_keepE, Nat.zero_add, Nat.add_zero, Nat.mul_one, Int.toNat_natCast, toNat_sub1, toNat_add1, decide_true, decide_false, Bool.not_true, Bool.not_false, if_true, if_false, Bool.false_eq_true, reduceCtorEq, r_gdU, r_ld s0, r_ld o0, r_ld oo, r_ld ss, r_ld s1, r_ld o1, decide_eq_true g1, decide_eq_true g2, decide_eq_true g3, g4] at this ⊢
    exact this
  have := fin true (decide_eq_true ⟨g1, g2, g3, g4⟩).symm
  simp (disch := omega) only [r_ln, r_pick, r_pickT, r_pickF, r_condT, r_condF, r_gdTT, r_gdFF, r_gdTF, r_gdFT, r_gqTT, r_gqFF, r_gqTF, r_gqFT, r_not, r_lss, r_leq, r_gtr, r_geq, r_eql, r_neq, r_add, r_sub, r_min2, r_max2, r_min3, r_max3, r_fa, r_iaS, r_iaA, r_ex2a, r_ex2b, r_ex3a, r_ex3b, r_ex3c, r_nc, r_keepE, Nat.zero_add, Nat.add_zero, Nat.mul_one, Int.toNat_natCast, toNat_sub1, toNat_add1, decide_true, decide_false, Bool.not_true, Bool.not_false, if_true, if_false, Bool.false_eq_true, reduceCtorEq, r_gdU, r_ld s0, r_ld o0, r_ld oo, r_ld ss, r_ld s1, r_ld o1, decide_eq_true g1, decide_eq_true g2, decide_eq_true g3, decide_eq_true g4] at this ⊢
  exact this

set_option maxRecDepth 100000 in
set_option maxHeartbeats 1000000 in
theorem is_calls {v : Value} {W H : Int} {L : List T3} (w : World) (hW : rectB W = true) (hH : rectB H = true) (hr : RdS w v L) (hl : L.length ≤ 16) : Calls Tryd.prog 43 #[.int .i64 W, .int .i64 H, v] w fun e w' => e = .returned (.bool (isB W H L)) ∧ Kp w w' := by
  have hW' := of_decide_eq_true hW
  have hH' := of_decide_eq_true hH
  obtain ⟨a, cap, ev, _⟩ := hr.len
  have lnv : ∀ K : Value → Prop, ln1 v K = K (.int .i64 L.length) := fun K => by rw [ev]; rfl
  refine lift43 ?_
  unfold S43
  rw [lnv]
  unfold S43L0
  refine ⟨fun t7 t14 wr => ∃ i : Nat, i ≤ L.length ∧ t7 = .int .i64 (area (L.take i)) ∧ t14 = .int .i64 i ∧ (∀ k, k < i → stepB W H L k = true) ∧ Kp w wr, fun _ t14 _ => L.length - (intOf t14).toNat, ⟨0, by omega, rfl, rfl, fun k hk => by omega, Kp.refl _⟩, ?_⟩
  rintro _ _ _ wr ⟨i, hi, rfl, rfl, hb, kr⟩
  by_cases hlt : i < L.length
  case neg =>
    have hlt' : ¬ (i : Int) < (L.length : Int) := by omega
    obtain rfl : i = L.length := by omega
    simp only [r_lss, hlt', decide_false, r_condF]
    have h1 : 0 ≤ W * H ∧ W * H ≤ 1000 * 1000 := ⟨Int.mul_nonneg (by omega) (by omega), Int.mul_le_mul hW'.2 hH'.2 (by omega) (by omega)⟩
    rw [r_mul _ _ (by omega) (by omega), r_eql, List.take_of_length_le (Nat.le_refl _), isB_good hb]
    exact ⟨rfl, kr⟩
  have hlt' : (i : Int) < (L.length : Int) := by omega
  simp only [r_lss, decide_eq_true hlt', r_condT]
  rw [tri_at (hr.kp kr) hlt]
  refine r_box fun b9 w1 e9 s9 h9 k1 => ?_
  have h9' : w1.heap[b9]? = some (.cells #[.int .i64 0, .int .i64 0, .int .i64 0] 44 (0, 0)) := h9
  refine st44 h9' fun w2 c2 s2 h92 => ?_
  have k2 : Kp wr w2 := Kp.of_chg k1 c2 fun q e => by omega
  rw [tri_box h92]
  refine r_use fok64 (fits_calls w2 hW hH) rfl ?_
  rintro _ w3 ⟨rfl, k3⟩
  refine ⟨_, rfl, ?_⟩
  have k03 := Kp.trans kr (Kp.trans k2 k3)
  cases hf : fitsB W H (L.getD i (0, 0, 0)) with
  | false =>
    simp only [r_not, Bool.not_false, r_condT]
    exact ⟨ret_bool (isB_bad hlt (by unfold stepB; rw [hf]; rfl)).symm, k03⟩
  | true =>
    simp only [r_not, Bool.not_true, r_condF]
    obtain ⟨u, hs, hln, hru⟩ := Rd.to (hr.kp k03) (i := i) (by omega)
    rw [hs, hln]
    refine r43_1 hW hH hlt hl hru hb hf (block_below h92 k3) rfl (fun w' k' hst => ?_) fun w' k' hst => ⟨ret_bool (isB_bad hlt hst).symm, Kp.trans k03 k'⟩
    refine ⟨⟨i + 1, by omega, rfl, by go_num, fun k hk => ?_, Kp.trans k03 k'⟩, by simp only [intOf]; omega⟩
    by_cases e : k = i
    · rw [e]; exact hst
    · exact hb k (by omega)

/-- Is's error and answer. -/
def isE (W H : Int) (L : List T3) : Int := if rectB W && rectB H then (if 16 < L.length then 3 else 0) else 2
def isV (W H : Int) (L : List T3) : Bool := decide (isE W H L = 0) && isB W H L
set_option maxRecDepth 100000 in
theorem Is_calls {v : Value} {W H : Int} {L : List T3} (w : World) (hr : RdS w v L) : Calls Tryd.prog 15 #[.int .i64 W, .int .i64 H, v] w fun e w' => e = .returned (.tuple #[.bool (isV W H L), .int .i64 (isE W H L)]) ∧ Kp w w' := by
  obtain ⟨a, cap, ev, _⟩ := hr.len
  have lnv : ∀ K : Value → Prop, ln1 v K = K (.int .i64 L.length) := fun K => by rw [ev]; rfl
  refine lift15 ?_
  unfold S15
  refine r_use fok42 (rect_calls W w) rfl ?_
  rintro _ _ ⟨rfl, rfl⟩
  refine ⟨_, rfl, ?_⟩
  unfold isV
  cases hW : rectB W with
  | false =>
    have hE : isE W H L = 2 := by unfold isE; rw [hW]; rfl
    rw [hE]
    simp (disch := omega) only [r_ln, r_pick, r_pickT, r_pickF, r_condT, r_condF, r_gdTT, r_gdFF, r_gdTF, r_gdFT, r_gqTT, r_gqFF, r_gqTF, r_gqFT, r_not, r_lss, r_leq, r_gtr, r_geq, r_eql, r_neq, r_add, r_sub, r_min2, r_max2, r_min3, r_max3, r_fa, r_iaS, r_iaA, r_ex2a, r_ex2b, r_ex3a, r_ex3b, r_ex3c, r_nc, r_keepE, Nat.zero_add, Nat.add_zero, Nat.mul_one, Int.toNat_natCast, toNat_sub1, toNat_add1, decide_true, decide_false, Bool.not_true, Bool.not_false, if_true, if_false, Bool.false_eq_true, reduceCtorEq, r_gdU]
    exact ⟨rfl, Kp.refl _⟩
  | true =>
    simp (disch := omega) only [r_ln, r_pick, r_pickT, r_pickF, r_condT, r_condF, r_gdTT, r_gdFF, r_gdTF, r_gdFT, r_gqTT, r_gqFF, r_gqTF, r_gqFT, r_not, r_lss, r_leq, r_gtr, r_geq, r_eql, r_neq, r_add, r_sub, r_min2, r_max2, r_min3, r_max3, r_fa, r_iaS, r_iaA, r_ex2a, r_ex2b, r_ex3a, r_ex3b, r_ex3c, r_nc, r_keepE, Nat.zero_add, Nat.add_zero, Nat.mul_one, Int.toNat_natCast, toNat_sub1, toNat_add1, decide_true, decide_false, Bool.not_true, Bool.not_false, if_true, if_false, Bool.false_eq_true, reduceCtorEq, r_gdU]
    refine r_use fok42 (rect_calls H w) rfl ?_
    rintro _ _ ⟨rfl, rfl⟩
    refine ⟨_, rfl, ?_⟩
    cases hH : rectB H with
    | false =>
      have hE : isE W H L = 2 := by unfold isE; rw [hW, hH]; rfl
      rw [hE]
      simp (disch := omega) only [r_ln, r_pick, r_pickT, r_pickF, r_condT, r_condF, r_gdTT, r_gdFF, r_gdTF, r_gdFT, r_gqTT, r_gqFF, r_gqTF, r_gqFT, r_not, r_lss, r_leq, r_gtr, r_geq, r_eql, r_neq, r_add, r_sub, r_min2, r_max2, r_min3, r_max3, r_fa, r_iaS, r_iaA, r_ex2a, r_ex2b, r_ex3a, r_ex3b, r_ex3c, r_nc, r_keepE, Nat.zero_add, Nat.add_zero, Nat.mul_one, Int.toNat_natCast, toNat_sub1, toNat_add1, decide_true, decide_false, Bool.not_true, Bool.not_false, if_true, if_false, Bool.false_eq_true, reduceCtorEq, r_gdU]
      exact ⟨rfl, Kp.refl _⟩
    | true =>
      have hE : isE W H L = if 16 < L.length then 3 else 0 := by unfold isE; rw [hW, hH]; rfl
      rw [hE]
      by_cases hl : (16 : Int) < (L.length : Int)
      · rw [if_pos (by omega)]
        simp (disch := omega) only [r_ln, r_pick, r_pickT, r_pickF, r_condT, r_condF, r_gdTT, r_gdFF, r_gdTF, r_gdFT, r_gqTT, r_gqFF, r_gqTF, r_gqFT, r_not, r_lss, r_leq, r_gtr, r_geq, r_eql, r_neq, r_add, r_sub, r_min2, r_max2, r_min3, r_max3, r_fa, r_iaS, r_iaA, r_ex2a, r_ex2b, r_ex3a, r_ex3b, r_ex3c, r_nc, r_keepE, Nat.zero_add, Nat.add_zero, Nat.mul_one, Int.toNat_natCast, toNat_sub1, toNat_add1, decide_true, decide_false, Bool.not_true, Bool.not_false, if_true, if_false, Bool.false_eq_true, reduceCtorEq, lnv, decide_eq_true hl]
        exact ⟨rfl, Kp.refl _⟩
      · rw [if_neg (by omega)]
        simp (disch := omega) only [r_ln, r_pick, r_pickT, r_pickF, r_condT, r_condF, r_gdTT, r_gdFF, r_gdTF, r_gdFT, r_gqTT, r_gqFF, r_gqTF, r_gqFT, r_not, r_lss, r_leq, r_gtr, r_geq, r_eql, r_neq, r_add, r_sub, r_min2, r_max2, r_min3, r_max3, r_fa, r_iaS, r_iaA, r_ex2a, r_ex2b, r_ex3a, r_ex3b, r_ex3c, r_nc, r_keepE, Nat.zero_add, Nat.add_zero, Nat.mul_one, Int.toNat_natCast, toNat_sub1, toNat_add1, decide_true, decide_false, Bool.not_true, Bool.not_false, if_true, if_false, Bool.false_eq_true, reduceCtorEq, lnv, hl]
        refine r_use fok43 (is_calls w hW hH hr (by omega)) rfl ?_
        rintro _ w2 ⟨rfl, k2⟩
        exact ⟨_, rfl, rfl, k2⟩

end Go.Proofs.YtkdcldbedbagjaaDoor
