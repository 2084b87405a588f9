/- Contract: Machine of the program, loop by loop. -/
import Derived.Test.YtgalbokmgffhkaaD7
set_option linter.all false
namespace Go.Proofs.Ytgalbokmgffhkaa
open Go.Lf Go.RowKit Go.Wg

set_option maxRecDepth 100000 in
theorem bs22_2' (a b c d a' b' c' d' : Int) (w : World) (K : Value → World → Prop) : bsW Try.prog 22 2 [(0, tlV (a, b, c, d)), (1, tlV (a', b', c', d'))] w K = K (.slice (some ⟨w.heap.size, 0, none⟩) 2 2) (w.alloc (.cells #[.int .i64 a, .int .i64 b, .int .i64 c, .int .i64 d, .int .i64 a', .int .i64 b', .int .i64 c', .int .i64 d'] 32)) := by kernel_rfl
theorem bs22_2 (t u : Tile) (w : World) (K : Value → World → Prop) : bsW Try.prog 22 2 [(0, tlV t), (1, tlV u)] w K = K (.slice (some ⟨w.heap.size, 0, none⟩) 2 2) (w.alloc (.cells (tlC t ++ tlC u).toArray 32)) := bs22_2' _ _ _ _ _ _ _ _ w K

theorem bdD (x y z : Int) (K : Value → Prop) : bdQ Try.prog 32 [(0, .int .i64 x), (1, .int .i64 y), (2, .int .i64 z)] K = K (tlV (x, y, z, 0)) := by kernel_rfl

set_option maxRecDepth 100000 in
/-- append(v, x, y) at tiles. -/
theorem r_push2T {w1 w : World} {v : Value} {P : List Tile} {t u : Tile} {K : Value → World → Prop} (h : TlAt w1.heap.size w v P) (hn : P.length + 2 ≤ 1000000) (h1 : Kp w1 w)
    (hk : ∀ v' w', TlAt w1.heap.size w' v' (P ++ [t] ++ [u]) → Kp w1 w' → K v' w') :
    bsW Try.prog 22 2 [(0, tlV t), (1, tlV u)] w fun s w => semW Try.prog (apS [22, 22] 22 [v, s]) w K := by
  rw [bs22_2]
  have T := slt22
  obtain ⟨i, z, i1, i2, i3, i4, i5⟩ := T.info
  have hlen : (tlC t ++ tlC u).length = 2 * 4 := rfl
  have hone : ∀ x ∈ tlC t ++ tlC u, x.oneCell' = true := fun x hx => by
    rcases List.mem_append.1 hx with h | h
    · exact tlC_one t x h
    · exact tlC_one u x h
  obtain ⟨v', w', hr, ho, hg, _, hat⟩ := run_append_own_at (P := Try.prog) (w := w.alloc (.cells (tlC t ++ tlC u).toArray 32)) w1.heap.size 22 22 32 i z 4 32 T.und i1 i2 i3 i4 i5 T.pos v P.length (recCells tlC P) (RecAt.kp h (below_alloc _)) ⟨w.heap.size, 0, none⟩ 2 2 (tlC t ++ tlC u) hlen (cells_at_row (heap_alloc_new w _)) hone (by unfold maxLen; omega) (by omega) (by have := h1.size; show _ ≤ (w.heap.push _).size; simp; omega)
  refine semW_of_run (by simp [apS, hr]) (hk v' w' ?_ ?_)
  · unfold TlAt RecAt
    have e : recCells tlC (P ++ [t] ++ [u]) = recCells tlC P ++ (tlC t ++ tlC u) := by simp [recCells]
    rw [e, List.length_append, List.length_append]
    exact ho
  · exact Kp.of_chg h1 ((Chg.of_kp (S := fun k => v.ownBlock = some k) (below_alloc _)).trans (Chg.of_grown hg fun k hk => hk)) fun k e => (h.lt e).1

set_option maxRecDepth 100000 in
/-- The same, where the new tile is kept. -/
theorem r_pushTK {w1 w : World} {v : Value} {P : List Tile} {t : Tile} {K : Value → World → Prop} (h : TlAt w1.heap.size w v P) (hn : P.length + 1 ≤ 1000000) (h1 : Kp w1 w)
    (hk : ∀ v' w', TlAt w1.heap.size w' v' (P ++ [t]) → Kp w1 w' → K v' w') :
    bsW Try.prog 22 1 [(0, tlV t)] w <| keepB w fun s w => semW Try.prog (apS [22, 22] 22 [v, s]) w K := by
  obtain ⟨a, b, c, d⟩ := t
  have := r_pushT h hn h1 hk
  rw [bs22] at this ⊢
  exact ⟨below_alloc _, this⟩

theorem call90 {x y : Int} {w : World} {K : Value → World → Prop} (h0 : 0 ≤ x ∧ x ≤ 100) (h1 : 0 ≤ y ∧ y ≤ 100) (hk : K (.int .i64 (2 + 2 * x + y)) w) : callW Try.prog (.func (.func 90) #[] #[]) [.int .i64 x, .int .i64 y] w K := by
  have hc : Calls Try.prog 90 #[.int .i64 x, .int .i64 y] w fun r w' => r = .returned (.int .i64 (2 + 2 * x + y)) ∧ w' = w := by
    refine lift90 ?_
    unfold S90
    simp (disch := omega) only [r_ln, r_pick, r_pickT, r_pickF, r_condT, r_condF, r_gdTT, r_gdFF, r_gdTF, r_gdFT, r_gqTT, r_gqFF, r_gqTF, r_gqFT, r_not, r_lss, r_leq, r_gtr, r_geq, r_eql, r_neq, r_add, r_sub, r_min2, r_max2, r_min3, r_max3, r_fa, r_iaS, r_iaA, r_ex2a, r_ex2b, r_ex3a, r_ex3b, r_ex3c, r_nc, r_keepE, Nat.zero_add, Nat.add_zero, Nat.mul_one, Int.toNat_natCast, toNat_sub1, toNat_add1, decide_true, decide_false, Bool.not_true, Bool.not_false, if_true, if_false, Bool.false_eq_true, reduceCtorEq, r_mul]
    exact ⟨by first | rfl | trivial, by first | rfl | trivial⟩
  refine r_use fok90 hc rfl ?_
  rintro _ w2 ⟨rfl, rfl⟩
  exact ⟨_, rfl, hk⟩
theorem call91 {x : Int} {w : World} {K : Value → World → Prop} (h0 : 0 ≤ x ∧ x ≤ 100) (hk : K (.int .i64 (1 + x)) w) : callW Try.prog (.func (.func 91) #[] #[]) [.int .i64 x] w K := by
  have hc : Calls Try.prog 91 #[.int .i64 x] w fun r w' => r = .returned (.int .i64 (1 + x)) ∧ w' = w := by
    refine lift91 ?_
    unfold S91
    simp (disch := omega) only [r_ln, r_pick, r_pickT, r_pickF, r_condT, r_condF, r_gdTT, r_gdFF, r_gdTF, r_gdFT, r_gqTT, r_gqFF, r_gqTF, r_gqFT, r_not, r_lss, r_leq, r_gtr, r_geq, r_eql, r_neq, r_add, r_sub, r_min2, r_max2, r_min3, r_max3, r_fa, r_iaS, r_iaA, r_ex2a, r_ex2b, r_ex3a, r_ex3b, r_ex3c, r_nc, r_keepE, Nat.zero_add, Nat.add_zero, Nat.mul_one, Int.toNat_natCast, toNat_sub1, toNat_add1, decide_true, decide_false, Bool.not_true, Bool.not_false, if_true, if_false, Bool.false_eq_true, reduceCtorEq]
    exact ⟨by first | rfl | trivial, by first | rfl | trivial⟩
  refine r_use fok91 hc rfl ?_
  rintro _ w2 ⟨rfl, rfl⟩
  exact ⟨_, rfl, hk⟩
theorem call92 {x s : Int} {b : Nat} {w : World} {K : Value → World → Prop} (hc : w.cell? ⟨b, 0, none⟩ = some (.int .i64 s)) (h0 : 0 ≤ x ∧ x ≤ 100) (h1 : 0 ≤ s ∧ s ≤ 100) (hk : K (.int .i64 (1 + s + x)) w) : callW Try.prog (.func (.func 92) #[] #[pb b]) [.int .i64 x] w K := by
  have hc : Calls Try.prog 92 #[.int .i64 x, pb b] w fun r w' => r = .returned (.int .i64 (1 + s + x)) ∧ w' = w := by
    refine lift92 ?_
    unfold S92
    simp (disch := omega) only [r_ln, r_pick, r_pickT, r_pickF, r_condT, r_condF, r_gdTT, r_gdFF, r_gdTF, r_gdFT, r_gqTT, r_gqFF, r_gqTF, r_gqFT, r_not, r_lss, r_leq, r_gtr, r_geq, r_eql, r_neq, r_add, r_sub, r_min2, r_max2, r_min3, r_max3, r_fa, r_iaS, r_iaA, r_ex2a, r_ex2b, r_ex3a, r_ex3b, r_ex3c, r_nc, r_keepE, Nat.zero_add, Nat.add_zero, Nat.mul_one, Int.toNat_natCast, toNat_sub1, toNat_add1, decide_true, decide_false, Bool.not_true, Bool.not_false, if_true, if_false, Bool.false_eq_true, reduceCtorEq, r_ld hc]
    exact ⟨by first | rfl | trivial, by first | rfl | trivial⟩
  refine r_use fok92 hc rfl ?_
  rintro _ w2 ⟨rfl, rfl⟩
  exact ⟨_, rfl, hk⟩

set_option maxRecDepth 100000 in
theorem r39_2 {w2 w : World} {b1 s i : Nat} {tv v : Value} {P : List Tile} {next : Value → Value → World → Prop}
    (h1 : w2.heap[b1]? = some (.cells #[.int .i64 s, tv] 51 (0, 0))) (hs : s ≤ 2) (hi : i < 2) (hP : TlAt w2.heap.size w v P) (hl : P.length ≤ 100) (k : Kp w2 w)
    (hn : ∀ v' w', TlAt w2.heap.size w' v' (P ++ mtA s i) → Kp w2 w' → next v' (.int .i64 ((i : Int) + 1)) w') :
    S39L2 (pb b1) v (.int .i64 i) (.int .i64 s) next w := by
  unfold S39L2
  refine ⟨fun t4 t7 wz => ∃ q : Nat, q ≤ s ∧ t7 = .int .i64 q ∧ TlAt w2.heap.size wz t4 (P ++ (List.range q).flatMap (mt2 s i)) ∧ Kp w2 wz, fun _ t7 _ => s - (intOf t7).toNat, ⟨0, by omega, rfl, by simpa using hP, k⟩, ?_⟩
  rintro _ t4 _ wz ⟨q, hq, rfl, hPq, kz⟩
  have cS : wz.cell? ⟨b1, 0, none⟩ = some (.int .i64 s) := by rw [cell_row (block_below h1 kz)]; rfl
  have hlq : ((List.range q).flatMap (mt2 s i)).length ≤ q * 2 := fl_le _ 2 (fun q => by rw [mt2_len]; omega) q
  by_cases hql : q < s
  case neg =>
    have hql' : ¬ (q : Int) < (s : Int) := by omega
    have eq : q = s := by omega
    subst eq
    simp (disch := omega) only [r_ln, r_pick, r_pickT, r_pickF, r_condT, r_condF, r_gdTT, r_gdFF, r_gdTF, r_gdFT, r_gqTT, r_gqFF, r_gqTF, r_gqFT, r_not, r_lss, r_leq, r_gtr, r_geq, r_eql, r_neq, r_add, r_sub, r_min2, r_max2, r_min3, r_max3, r_fa, r_iaS, r_iaA, r_ex2a, r_ex2b, r_ex3a, r_ex3b, r_ex3c, r_nc, r_keepE, Nat.zero_add, Nat.add_zero, Nat.mul_one, Int.toNat_natCast, toNat_sub1, toNat_add1, decide_true, decide_false, Bool.not_true, Bool.not_false, if_true, if_false, Bool.false_eq_true, reduceCtorEq, hql']
    exact hn t4 wz hPq kz
  have hql' : (q : Int) < (s : Int) := by omega
  simp (disch := omega) only [r_ln, r_pick, r_pickT, r_pickF, r_condT, r_condF, r_gdTT, r_gdFF, r_gdTF, r_gdFT, r_gqTT, r_gqFF, r_gqTF, r_gqFT, r_not, r_lss, r_leq, r_gtr, r_geq, r_eql, r_neq, r_add, r_sub, r_min2, r_max2, r_min3, r_max3, r_fa, r_iaS, r_iaA, r_ex2a, r_ex2b, r_ex3a, r_ex3b, r_ex3c, r_nc, r_keepE, Nat.zero_add, Nat.add_zero, Nat.mul_one, Int.toNat_natCast, toNat_sub1, toNat_add1, decide_true, decide_false, Bool.not_true, Bool.not_false, if_true, if_false, Bool.false_eq_true, reduceCtorEq, decide_eq_true hql']
  refine call90 (by omega) (by omega) ?_
  refine call91 (by omega) ?_
  rw [bdB]
  refine call92 cS (by omega) (by omega) ?_
  refine call90 (by omega) (by omega) ?_
  rw [bdD]
  refine r_push2T (w1 := w2) hPq (by simp only [List.length_append]; omega) kz fun v2 u2 o2 q2 => ?_
  try simp (disch := omega) only [r_ln, r_pick, r_pickT, r_pickF, r_condT, r_condF, r_gdTT, r_gdFF, r_gdTF, r_gdFT, r_gqTT, r_gqFF, r_gqTF, r_gqFT, r_not, r_lss, r_leq, r_gtr, r_geq, r_eql, r_neq, r_add, r_sub, r_min2, r_max2, r_min3, r_max3, r_fa, r_iaS, r_iaA, r_ex2a, r_ex2b, r_ex3a, r_ex3b, r_ex3c, r_nc, r_keepE, Nat.zero_add, Nat.add_zero, Nat.mul_one, Int.toNat_natCast, toNat_sub1, toNat_add1, decide_true, decide_false, Bool.not_true, Bool.not_false, if_true, if_false, Bool.false_eq_true, reduceCtorEq]
  refine ⟨⟨q + 1, by omega, by go_num, ?_, q2⟩, by simp only [intOf]; omega⟩
  rw [fl_succ]
  have e : mt2 s i q = [((i : Int), 0, 2 + 2 * (q : Int) + i, 1 + (q : Int))] ++ [((i : Int), 1 + (s : Int) + q, 2 + 2 * (q : Int) + i, 0)] := rfl
  rw [e, ← List.append_assoc, ← List.append_assoc]
  exact o2


set_option maxRecDepth 100000 in
theorem r39_4 {w2 w : World} {b1 s q : Nat} {tv v : Value} {T : List Ent} {P : List Tile} {next : Value → Value → World → Prop}
    (h1 : w2.heap[b1]? = some (.cells #[.int .i64 s, tv] 51 (0, 0))) (hr : RdE w2 tv T) (hs : s ≤ 2) (hq : q < s) (hT : T.length = 2 * s) (hE : ∀ x ∈ T, -1 ≤ x.2.2 ∧ x.2.2 < s) (hP : TlAt w2.heap.size w v P) (hl : P.length ≤ 100) (k : Kp w2 w)
    (hn : ∀ v' w', TlAt w2.heap.size w' v' (P ++ mtB s T q) → Kp w2 w' → next v' (.int .i64 ((q : Int) + 1)) w') :
    S39L4 (pb b1) v (.int .i64 q) next w := by
  unfold S39L4
  refine ⟨fun t4 t9 wz => ∃ z : Nat, z ≤ 2 ∧ t9 = .int .i64 z ∧ TlAt w2.heap.size wz t4 (P ++ (List.range z).flatMap (mt3 s T q)) ∧ Kp w2 wz, fun _ t9 _ => 2 - (intOf t9).toNat, ⟨0, by omega, rfl, by simpa using hP, k⟩, ?_⟩
  rintro _ t4 _ wz ⟨z, hz, rfl, hPz, kz⟩
  by_cases hzl : z < 2
  case neg =>
    have hzl' : ¬ (z : Int) < 2 := by omega
    have ez : z = 2 := by omega
    subst ez
    simp (disch := omega) only [r_ln, r_pick, r_pickT, r_pickF, r_condT, r_condF, r_gdTT, r_gdFF, r_gdTF, r_gdFT, r_gqTT, r_gqFF, r_gqTF, r_gqFT, r_not, r_lss, r_leq, r_gtr, r_geq, r_eql, r_neq, r_add, r_sub, r_min2, r_max2, r_min3, r_max3, r_fa, r_iaS, r_iaA, r_ex2a, r_ex2b, r_ex3a, r_ex3b, r_ex3c, r_nc, r_keepE, Nat.zero_add, Nat.add_zero, Nat.mul_one, Int.toNat_natCast, toNat_sub1, toNat_add1, decide_true, decide_false, Bool.not_true, Bool.not_false, if_true, if_false, Bool.false_eq_true, reduceCtorEq, hzl']
    exact hn t4 wz hPz kz
  have hzl' : (z : Int) < 2 := by omega
  have hlz : ((List.range z).flatMap (mt3 s T q)).length ≤ z * 1 := fl_le _ 1 (fun z => mt3_len s T q z) z
  have cT : wz.cell? ⟨b1, 1, none⟩ = some tv := by rw [cell_row (block_below h1 kz)]; rfl
  have hlt : 2 * q + z < T.length := by omega
  obtain ⟨x, hx⟩ : ∃ x, T[2 * q + z]? = some x := ⟨_, List.getElem?_eq_getElem hlt⟩
  have hxE := hE x (List.mem_of_getElem? hx)
  have hm3 : mt3 s T q z = if x.2.2 < 0 then [] else if x.2.1 = true then [(2 + 2 * (q : Int) + z, 1 + x.2.2, x.1, 0)] else [(2 + 2 * (q : Int) + z, 0, x.1, 1 + (s : Int) + x.2.2)] := by
    simp only [mt3, List.getD_eq_getElem?_getD, hx, Option.getD_some]
  obtain ⟨b, off, cap, etv, _, hld⟩ := RdE.ent (hr.kp kz) hx
  subst etv
  have e2 : (2 * (q : Int) + z).toNat = 2 * q + z := by omega
  simp (disch := omega) only [r_ln, r_pick, r_pickT, r_pickF, r_condT, r_condF, r_gdTT, r_gdFF, r_gdTF, r_gdFT, r_gqTT, r_gqFF, r_gqTF, r_gqFT, r_not, r_lss, r_leq, r_gtr, r_geq, r_eql, r_neq, r_add, r_sub, r_min2, r_max2, r_min3, r_max3, r_fa, r_iaS, r_iaA, r_ex2a, r_ex2b, r_ex3a, r_ex3b, r_ex3c, r_nc, r_keepE, Nat.zero_add, Nat.add_zero, Nat.mul_one, Int.toNat_natCast, toNat_sub1, toNat_add1, decide_true, decide_false, Bool.not_true, Bool.not_false, if_true, if_false, Bool.false_eq_true, reduceCtorEq, decide_eq_true hzl', r_ld cT, r_mul, e2, hld]
  refine r_box fun b4 w4 e4 s4 h4 k4 => ?_
  refine r_stAll (n := 3) (ty := 102) (by kernel_rfl) rfl (by intro u hu; simp [Value.cells] at hu; rcases hu with rfl | rfl | rfl <;> rfl) h4 rfl fun w5 d5 t5 h5 => ?_
  have k5 : Kp wz w5 := Kp.of_chg k4 d5 fun i e => by omega
  have kz5 := Kp.trans kz k5
  have c0 : w5.cell? ⟨b4, 0, none⟩ = some (.int .i64 x.1) := by rw [cell_row h5]; rfl
  have c1 : w5.cell? ⟨b4, 1, none⟩ = some (.bool x.2.1) := by rw [cell_row h5]; rfl
  have c2 : w5.cell? ⟨b4, 2, none⟩ = some (.int .i64 x.2.2) := by rw [cell_row h5]; rfl
  have hP5 := hPz.kp k5
  have hcont : ∀ v' w', TlAt w2.heap.size w' v' (P ++ (List.range z).flatMap (mt3 s T q) ++ mt3 s T q z) → Kp w2 w' → TlAt w2.heap.size w' v' (P ++ (List.range (z + 1)).flatMap (mt3 s T q)) ∧ Kp w2 w' := fun v' w' ho kk => by
    rw [fl_succ, ← List.append_assoc]
    exact ⟨ho, kk⟩
  rw [hm3] at hcont
  by_cases g1 : x.2.2 < 0
  · simp (disch := omega) only [r_ln, r_pick, r_pickT, r_pickF, r_condT, r_condF, r_gdTT, r_gdFF, r_gdTF, r_gdFT, r_gqTT, r_gqFF, r_gqTF, r_gqFT, r_not, r_lss, r_leq, r_gtr, r_geq, r_eql, r_neq, r_add, r_sub, r_min2, r_max2, r_min3, r_max3, r_fa, r_iaS, r_iaA, r_ex2a, r_ex2b, r_ex3a, r_ex3b, r_ex3c, r_nc, r_keepE, Nat.zero_add, Nat.add_zero, Nat.mul_one, Int.toNat_natCast, toNat_sub1, toNat_add1, decide_true, decide_false, Bool.not_true, Bool.not_false, if_true, if_false, Bool.false_eq_true, reduceCtorEq, r_ld c2, decide_eq_true g1]
    refine r_join1 (fun v' w' => TlAt w2.heap.size w' v' (P ++ (List.range (z + 1)).flatMap (mt3 s T q)) ∧ Kp w2 w') (fun v' w' ⟨ho, kk⟩ => ?_) fun k' hk' => ?_
    · try simp (disch := omega) only [r_ln, r_pick, r_pickT, r_pickF, r_condT, r_condF, r_gdTT, r_gdFF, r_gdTF, r_gdFT, r_gqTT, r_gqFF, r_gqTF, r_gqFT, r_not, r_lss, r_leq, r_gtr, r_geq, r_eql, r_neq, r_add, r_sub, r_min2, r_max2, r_min3, r_max3, r_fa, r_iaS, r_iaA, r_ex2a, r_ex2b, r_ex3a, r_ex3b, r_ex3c, r_nc, r_keepE, Nat.zero_add, Nat.add_zero, Nat.mul_one, Int.toNat_natCast, toNat_sub1, toNat_add1, decide_true, decide_false, Bool.not_true, Bool.not_false, if_true, if_false, Bool.false_eq_true, reduceCtorEq]
      exact ⟨⟨z + 1, by omega, by go_num, ho, kk⟩, by simp only [intOf]; omega⟩
    try simp (disch := omega) only [r_ln, r_pick, r_pickT, r_pickF, r_condT, r_condF, r_gdTT, r_gdFF, r_gdTF, r_gdFT, r_gqTT, r_gqFF, r_gqTF, r_gqFT, r_not, r_lss, r_leq, r_gtr, r_geq, r_eql, r_neq, r_add, r_sub, r_min2, r_max2, r_min3, r_max3, r_fa, r_iaS, r_iaA, r_ex2a, r_ex2b, r_ex3a, r_ex3b, r_ex3c, r_nc, r_keepE, Nat.zero_add, Nat.add_zero, Nat.mul_one, Int.toNat_natCast, toNat_sub1, toNat_add1, decide_true, decide_false, Bool.not_true, Bool.not_false, if_true, if_false, Bool.false_eq_true, reduceCtorEq]
    refine hk' _ _ (hcont _ _ ?_ kz5)
    rw [if_pos g1, List.append_nil]
    exact hP5
  rw [if_neg g1] at hcont
  simp (disch := omega) only [r_ln, r_pick, r_pickT, r_pickF, r_condT, r_condF, r_gdTT, r_gdFF, r_gdTF, r_gdFT, r_gqTT, r_gqFF, r_gqTF, r_gqFT, r_not, r_lss, r_leq, r_gtr, r_geq, r_eql, r_neq, r_add, r_sub, r_min2, r_max2, r_min3, r_max3, r_fa, r_iaS, r_iaA, r_ex2a, r_ex2b, r_ex3a, r_ex3b, r_ex3c, r_nc, r_keepE, Nat.zero_add, Nat.add_zero, Nat.mul_one, Int.toNat_natCast, toNat_sub1, toNat_add1, decide_true, decide_false, Bool.not_true, Bool.not_false, if_true, if_false, Bool.false_eq_true, reduceCtorEq, r_ld c2, g1, r_ld c1]
  refine r_join1 (fun v' w' => TlAt w2.heap.size w' v' (P ++ (List.range (z + 1)).flatMap (mt3 s T q)) ∧ Kp w2 w') (fun v' w' ⟨ho, kk⟩ => ?_) fun k' hk' => ?_
  · try simp (disch := omega) only [r_ln, r_pick, r_pickT, r_pickF, r_condT, r_condF, r_gdTT, r_gdFF, r_gdTF, r_gdFT, r_gqTT, r_gqFF, r_gqTF, r_gqFT, r_not, r_lss, r_leq, r_gtr, r_geq, r_eql, r_neq, r_add, r_sub, r_min2, r_max2, r_min3, r_max3, r_fa, r_iaS, r_iaA, r_ex2a, r_ex2b, r_ex3a, r_ex3b, r_ex3c, r_nc, r_keepE, Nat.zero_add, Nat.add_zero, Nat.mul_one, Int.toNat_natCast, toNat_sub1, toNat_add1, decide_true, decide_false, Bool.not_true, Bool.not_false, if_true, if_false, Bool.false_eq_true, reduceCtorEq]
    exact ⟨⟨z + 1, by omega, by go_num, ho, kk⟩, by simp only [intOf]; omega⟩
  cases hx1 : x.2.1 with
  | true =>
    rw [hx1] at hcont
    try simp (disch := omega) only [r_ln, r_pick, r_pickT, r_pickF, r_condT, r_condF, r_gdTT, r_gdFF, r_gdTF, r_gdFT, r_gqTT, r_gqFF, r_gqTF, r_gqFT, r_not, r_lss, r_leq, r_gtr, r_geq, r_eql, r_neq, r_add, r_sub, r_min2, r_max2, r_min3, r_max3, r_fa, r_iaS, r_iaA, r_ex2a, r_ex2b, r_ex3a, r_ex3b, r_ex3c, r_nc, r_keepE, Nat.zero_add, Nat.add_zero, Nat.mul_one, Int.toNat_natCast, toNat_sub1, toNat_add1, decide_true, decide_false, Bool.not_true, Bool.not_false, if_true, if_false, Bool.false_eq_true, reduceCtorEq]
    refine r_drew fun w6 k6 _ => ?_
    have k6' := Kp.trans kz5 k6
    have c06 := cell_later k6 c0
    have c26 := cell_later k6 c2
    have cS6 : w6.cell? ⟨b1, 0, none⟩ = some (.int .i64 s) := by rw [cell_row (block_below h1 k6')]; rfl
    simp (disch := omega) only [r_ln, r_pick, r_pickT, r_pickF, r_condT, r_condF, r_gdTT, r_gdFF, r_gdTF, r_gdFT, r_gqTT, r_gqFF, r_gqTF, r_gqFT, r_not, r_lss, r_leq, r_gtr, r_geq, r_eql, r_neq, r_add, r_sub, r_min2, r_max2, r_min3, r_max3, r_fa, r_iaS, r_iaA, r_ex2a, r_ex2b, r_ex3a, r_ex3b, r_ex3c, r_nc, r_keepE, Nat.zero_add, Nat.add_zero, Nat.mul_one, Int.toNat_natCast, toNat_sub1, toNat_add1, decide_true, decide_false, Bool.not_true, Bool.not_false, if_true, if_false, Bool.false_eq_true, reduceCtorEq, r_ld c06, r_ld c26]
    refine call90 (by omega) (by omega) ⟨Kp.refl _, ?_⟩
    refine call91 (by omega) ⟨Kp.refl _, ?_⟩
    dsimp only
    rw [bdD]
    refine r_pushTK (w1 := w2) (hP5.kp k6) (by simp only [List.length_append]; omega) k6' fun v2 u2 o2 q2 => ?_
    exact hk' _ _ (hcont _ _ o2 q2)
  | false =>
    rw [hx1] at hcont
    try simp (disch := omega) only [r_ln, r_pick, r_pickT, r_pickF, r_condT, r_condF, r_gdTT, r_gdFF, r_gdTF, r_gdFT, r_gqTT, r_gqFF, r_gqTF, r_gqFT, r_not, r_lss, r_leq, r_gtr, r_geq, r_eql, r_neq, r_add, r_sub, r_min2, r_max2, r_min3, r_max3, r_fa, r_iaS, r_iaA, r_ex2a, r_ex2b, r_ex3a, r_ex3b, r_ex3c, r_nc, r_keepE, Nat.zero_add, Nat.add_zero, Nat.mul_one, Int.toNat_natCast, toNat_sub1, toNat_add1, decide_true, decide_false, Bool.not_true, Bool.not_false, if_true, if_false, Bool.false_eq_true, reduceCtorEq]
    refine r_drew fun w6 k6 _ => ?_
    have k6' := Kp.trans kz5 k6
    have c06 := cell_later k6 c0
    have c26 := cell_later k6 c2
    have cS6 : w6.cell? ⟨b1, 0, none⟩ = some (.int .i64 s) := by rw [cell_row (block_below h1 k6')]; rfl
    simp (disch := omega) only [r_ln, r_pick, r_pickT, r_pickF, r_condT, r_condF, r_gdTT, r_gdFF, r_gdTF, r_gdFT, r_gqTT, r_gqFF, r_gqTF, r_gqFT, r_not, r_lss, r_leq, r_gtr, r_geq, r_eql, r_neq, r_add, r_sub, r_min2, r_max2, r_min3, r_max3, r_fa, r_iaS, r_iaA, r_ex2a, r_ex2b, r_ex3a, r_ex3b, r_ex3c, r_nc, r_keepE, Nat.zero_add, Nat.add_zero, Nat.mul_one, Int.toNat_natCast, toNat_sub1, toNat_add1, decide_true, decide_false, Bool.not_true, Bool.not_false, if_true, if_false, Bool.false_eq_true, reduceCtorEq, r_ld c06, r_ld c26]
    refine call90 (by omega) (by omega) ⟨Kp.refl _, ?_⟩
    refine call92 cS6 (by omega) (by omega) ⟨Kp.refl _, ?_⟩
    dsimp only
    rw [bdB]
    refine r_pushTK (w1 := w2) (hP5.kp k6) (by simp only [List.length_append]; omega) k6' fun v2 u2 o2 q2 => ?_
    exact hk' _ _ (hcont _ _ o2 q2)

end Go.Proofs.Ytgalbokmgffhkaa
