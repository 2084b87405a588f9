/- Contract: WangLimit. -/
import Derived.Test.YtgalbokmgffhkaaB9
set_option linter.all false
namespace Go.Proofs.Ytgalbokmgffhkaa
open Go.Lf Go.RowKit Go.Wg

theorem st30 {w : World} {a : Addr} {x : Option Addr} {n c : Nat} {v : Value} {K : World → Prop} (hc : w.cell? a = some v) (hf : w.frozen? a = false) : stW Try.prog 30 (.pointer (some a)) (.slice x n c) w K = K (w.setCell a (.slice x n c)) := by
  have e : stW Try.prog 30 (.pointer (some a)) (.slice x n c) w K = ((w.cell? (a.add 0)).isSome = true ∧ w.frozen? (a.add 0) = false ∧ true = true ∧ K (w.setCell (a.add 0) (.slice x n c))) := by kernel_rfl
  rw [e]
  have ha : a.add 0 = a := rfl
  simp [ha, hc, hf]

set_option maxRecDepth 100000 in
/-- make([][]int, n) -/
theorem mk23 {n : Nat} {w : World} {K : Value → World → Prop} (hn : n ≤ 1000000) (h : ∀ v w', RecAt 30 1 vE w.heap.size w' v (List.replicate n nilS) → Kp w w' → K v w') :
    mkW Try.prog 23 (.int .i64 n) (.int .i64 n) w K := by
  have e : ∀ (l : Int) (K : Value → World → Prop), mkW Try.prog 23 (.int .i64 l) (.int .i64 l) w K = (0 ≤ l ∧ l ≤ l ∧ l ≤ 4611686018427387904 ∧ ((24 : Nat) : Int) * l ≤ 281474976710656 ∧ 0 < 1 ∧
      K (.slice (some ⟨w.heap.size, 0, none⟩) l.toNat l.toNat) (w.alloc (.cells (mkCells #[nilS] (l.toNat * 1)) 30))) := fun l K => by kernel_rfl
  rw [e]
  refine ⟨by omega, by omega, by omega, by omega, by omega, ?_⟩
  rw [Nat.mul_one, mkCells_one, Int.toNat_natCast]
  exact h _ _ (made_rec (x := nilS) (enc := vE) rfl hn w) (below_alloc _)

theorem cmp11 : cmpL [1, 1] [1, 1] = 0 := by decide

set_option maxRecDepth 100000 in
set_option maxHeartbeats 400000 in
theorem limit_calls (more : Bool) (w : World) : Calls Try.prog 4 #[.bool more] w fun e w' => e = .returned (.bool true) ∧ Kp w w' := by
  refine lift4 ?_
  unfold S4
  refine r_join1 (fun t w' => t = .int .i64 ((if more = true then 65536 else 65535 : Nat) : Int) ∧ w = w') ?_ ?_
  rotate_left
  · intro kk hkk
    cases more with
    | true =>
      simp (disch := omega) only [r_ln, r_pick, r_pickT, r_pickF, r_condT, r_condF, r_gdTT, r_gdFF, r_gdTF, r_gdFT, r_gqTT, r_gqFF, r_gqTF, r_gqFT, r_not, r_lss, r_leq, r_gtr, r_geq, r_eql, r_neq, r_add, r_sub, r_min2, r_max2, r_min3, r_max3, r_fa, r_iaS, r_iaA, r_ex2a, r_ex2b, r_ex3a, r_ex3b, r_ex3c, r_nc, r_keepE, Nat.zero_add, Nat.add_zero, Nat.mul_one, Int.toNat_natCast, toNat_sub1, toNat_add1, decide_true, decide_false, Bool.not_true, Bool.not_false, if_true, if_false, Bool.false_eq_true, reduceCtorEq]
      exact hkk _ _ ⟨rfl, rfl⟩
    | false =>
      simp (disch := omega) only [r_ln, r_pick, r_pickT, r_pickF, r_condT, r_condF, r_gdTT, r_gdFF, r_gdTF, r_gdFT, r_gqTT, r_gqFF, r_gqTF, r_gqFT, r_not, r_lss, r_leq, r_gtr, r_geq, r_eql, r_neq, r_add, r_sub, r_min2, r_max2, r_min3, r_max3, r_fa, r_iaS, r_iaA, r_ex2a, r_ex2b, r_ex3a, r_ex3b, r_ex3c, r_nc, r_keepE, Nat.zero_add, Nat.add_zero, Nat.mul_one, Int.toNat_natCast, toNat_sub1, toNat_add1, decide_true, decide_false, Bool.not_true, Bool.not_false, if_true, if_false, Bool.false_eq_true, reduceCtorEq]
      exact hkk _ _ ⟨rfl, rfl⟩
  rintro _ _ ⟨rfl, rfl⟩
  have hn : (if more = true then 65536 else 65535 : Nat) ≤ 65536 ∧ 65535 ≤ (if more = true then 65536 else 65535 : Nat) := by split <;> omega
  have hne : (65535 < (if more = true then 65536 else 65535 : Nat)) ↔ more = true := by split <;> simp [*]
  generalize (if more = true then 65536 else 65535 : Nat) = n at *
  refine mk23 (by omega) fun v w1 hv k1 => ?_
  obtain ⟨a, cap, rfl, _⟩ := hv.len
  rw [List.length_replicate] at hv ⊢
  have s1 := k1.size
  refine ⟨fun t5 wr => ∃ (i : Nat) (vs : List Value), i ≤ n ∧ t5 = .int .i64 i ∧ vs.length = n ∧ RecAt 30 1 vE w.heap.size wr (.slice a n cap) vs ∧ (∀ j, j < i → ∃ u, vs[j]? = some u ∧ IntsAt w.heap.size wr u [1, 1]) ∧ Kp w wr, fun t5 _ => n - (intOf t5).toNat,
    ⟨0, List.replicate n nilS, by omega, rfl, List.length_replicate, hv, fun j hj => absurd hj (by omega), k1⟩, ?_⟩
  rintro _ _ wr ⟨i, vs, hi, rfl, hvl, hR, hrows, kr⟩
  have sr := kr.size
  by_cases hlt : i < n
  case pos =>
    have hlt' : (i : Int) < (n : Int) := by omega
    simp (disch := omega) only [r_ln, r_pick, r_pickT, r_pickF, r_condT, r_condF, r_gdTT, r_gdFF, r_gdTF, r_gdFT, r_gqTT, r_gqFF, r_gqTF, r_gqFT, r_not, r_lss, r_leq, r_gtr, r_geq, r_eql, r_neq, r_add, r_sub, r_min2, r_max2, r_min3, r_max3, r_fa, r_iaS, r_iaA, r_ex2a, r_ex2b, r_ex3a, r_ex3b, r_ex3c, r_nc, r_keepE, Nat.zero_add, Nat.add_zero, Nat.mul_one, Int.toNat_natCast, toNat_sub1, toNat_add1, decide_true, decide_false, Bool.not_true, Bool.not_false, if_true, if_false, Bool.false_eq_true, reduceCtorEq, decide_eq_true hlt']
    rw [bs30b]
    have o2 := rec_alloc (e := 3) iC_len [1, 1] (by decide) wr
    have k2 : Kp wr (wr.alloc (.cells (recCells iC [1, 1]).toArray 3)) := below_alloc _
    generalize hsz : wr.heap.size = sz at *
    generalize wr.alloc (.cells (recCells iC [1, 1]).toArray 3) = w2 at *
    obtain ⟨g, cap', e, hgb, ⟨x, hx⟩, hf, hset⟩ := RecAt.set (j := 0) (p' := Value.slice (some ⟨sz, 0, none⟩) 2 2) (u := Value.slice (some ⟨sz, 0, none⟩) 2 2) vE_len (hR.kp k2) (List.getElem?_eq_getElem (show i < vs.length by omega)) (by omega) rfl
    rw [hvl] at e
    cases e
    simp only [Nat.mul_one, Nat.add_zero] at hx hf hset
    simp (disch := omega) only [r_ln, r_pick, r_pickT, r_pickF, r_condT, r_condF, r_gdTT, r_gdFF, r_gdTF, r_gdFT, r_gqTT, r_gqFF, r_gqTF, r_gqFT, r_not, r_lss, r_leq, r_gtr, r_geq, r_eql, r_neq, r_add, r_sub, r_min2, r_max2, r_min3, r_max3, r_fa, r_iaS, r_iaA, r_ex2a, r_ex2b, r_ex3a, r_ex3b, r_ex3c, r_nc, r_keepE, Nat.zero_add, Nat.add_zero, Nat.mul_one, Int.toNat_natCast, toNat_sub1, toNat_add1, decide_true, decide_false, Bool.not_true, Bool.not_false, if_true, if_false, Bool.false_eq_true, reduceCtorEq]
    rw [st30 hx hf]
    have c3 : Chg (fun k => k = g) w2 (w2.setCell ⟨g, i, none⟩ (.slice (some ⟨sz, 0, none⟩) 2 2)) := Chg.setCell _ _ rfl
    have keep : ∀ u, IntsAt w.heap.size w2 u [1, 1] → IntsAt w.heap.size (w2.setCell ⟨g, i, none⟩ (.slice (some ⟨sz, 0, none⟩) 2 2)) u [1, 1] := fun u hu => hu.chg c3 fun k hk e => rec_ne hu (hR.kp k2) (by decide) k hk (by rw [e]; rfl)
    try simp (disch := omega) only [r_ln, r_pick, r_pickT, r_pickF, r_condT, r_condF, r_gdTT, r_gdFF, r_gdTF, r_gdFT, r_gqTT, r_gqFF, r_gqTF, r_gqFT, r_not, r_lss, r_leq, r_gtr, r_geq, r_eql, r_neq, r_add, r_sub, r_min2, r_max2, r_min3, r_max3, r_fa, r_iaS, r_iaA, r_ex2a, r_ex2b, r_ex3a, r_ex3b, r_ex3c, r_nc, r_keepE, Nat.zero_add, Nat.add_zero, Nat.mul_one, Int.toNat_natCast, toNat_sub1, toNat_add1, decide_true, decide_false, Bool.not_true, Bool.not_false, if_true, if_false, Bool.false_eq_true, reduceCtorEq]
    refine ⟨⟨i + 1, _, by omega, by go_num, by rw [List.length_set]; exact hvl, hset, fun j hj => ?_, Kp.of_chg (Kp.trans kr k2) c3 fun k e => by omega⟩, by simp only [intOf]; omega⟩
    by_cases hji : j = i
    · subst hji
      exact ⟨_, by rw [List.getElem?_set_self (by omega)]; rfl, keep _ (o2.down sr)⟩
    · obtain ⟨u, q1, q2⟩ := hrows j (by omega)
      exact ⟨u, by rw [List.getElem?_set_ne (Ne.symm hji)]; exact q1, keep u (q2.kp k2)⟩
  have hlt' : ¬ (i : Int) < (n : Int) := by omega
  have ei : i = n := by omega
  subst ei
  have hIR : IRows w.heap.size wr (.slice a i cap) (List.replicate i [1, 1]) := ⟨vs, hR, by rw [hvl, List.length_replicate], fun j u r hu hr => by
    have hj : j < i := by rw [← hvl]; exact (List.getElem?_eq_some_iff.1 hu).1
    obtain ⟨u', q1, q2⟩ := hrows j hj
    rw [hu] at q1
    cases q1
    rw [List.getElem?_replicate, if_pos hj] at hr
    cases hr
    exact q2⟩
  simp (disch := omega) only [r_ln, r_pick, r_pickT, r_pickF, r_condT, r_condF, r_gdTT, r_gdFF, r_gdTF, r_gdFT, r_gqTT, r_gqFF, r_gqTF, r_gqFT, r_not, r_lss, r_leq, r_gtr, r_geq, r_eql, r_neq, r_add, r_sub, r_min2, r_max2, r_min3, r_max3, r_fa, r_iaS, r_iaA, r_ex2a, r_ex2b, r_ex3a, r_ex3b, r_ex3c, r_nc, r_keepE, Nat.zero_add, Nat.add_zero, Nat.mul_one, Int.toNat_natCast, toNat_sub1, toNat_add1, decide_true, decide_false, Bool.not_true, Bool.not_false, if_true, if_false, Bool.false_eq_true, reduceCtorEq, hlt']
  rw [bd32c, bs22a]
  have o3 := rec_alloc (e := 32) tlC_len l1 (by decide) wr
  have k3 : Kp wr (wr.alloc (.cells (recCells tlC l1).toArray 32)) := below_alloc _
  generalize hsz : wr.heap.size = sz at *
  generalize wr.alloc (.cells (recCells tlC l1).toArray 32) = w3 at *
  have hrl : (List.replicate i ([1, 1] : List Int)).length = i := List.length_replicate
  refine r_use fok19 (refutes_calls 1 2 w3 (o3.rd tlC_len) ((hIR.kp k3).rd (by rw [hrl]; omega) fun r hr => by rw [List.eq_of_mem_replicate hr]; decide)) rfl ?_
  rintro _ w4 ⟨k4, hpost⟩
  have kall := Kp.trans kr (Kp.trans k3 k4)
  have hv : more = true ∧ RefPost l1 1 2 (List.replicate i [1, 1]) (.returned (.tuple #[.bool false, .int .i64 3])) ∨ more = false := by
    cases more
    · exact .inr rfl
    · refine .inl ⟨rfl, .inr (.inl ⟨ord1, by rw [hrl]; exact hne.2 rfl, rfl⟩)⟩
  rcases hpost with ⟨h, _⟩ | ⟨_, hb, rfl⟩ | ⟨_, hb, r, rfl, hr⟩
  · exact absurd ord1 h
  · rw [hrl] at hb
    have hm := hne.1 hb
    subst hm
    refine ⟨_, rfl, ?_⟩
    simp (disch := omega) only [r_ln, r_pick, r_pickT, r_pickF, r_condT, r_condF, r_gdTT, r_gdFF, r_gdTF, r_gdFT, r_gqTT, r_gqFF, r_gqTF, r_gqFT, r_not, r_lss, r_leq, r_gtr, r_geq, r_eql, r_neq, r_add, r_sub, r_min2, r_max2, r_min3, r_max3, r_fa, r_iaS, r_iaA, r_ex2a, r_ex2b, r_ex3a, r_ex3b, r_ex3c, r_nc, r_keepE, Nat.zero_add, Nat.add_zero, Nat.mul_one, Int.toNat_natCast, toNat_sub1, toNat_add1, decide_true, decide_false, Bool.not_true, Bool.not_false, if_true, if_false, Bool.false_eq_true, reduceCtorEq, decide_eq_true (rfl : (3 : Int) = 3)]
    refine r_use fok18 (law_alive w4) rfl ?_
    rintro _ w5 ⟨rfl, k5⟩
    refine ⟨_, rfl, ?_⟩
    simp only [r_ln, r_pick, r_pickT, r_pickF, r_condT, r_condF, r_gdTT, r_gdFF, r_gdTF, r_gdFT, r_gqTT, r_gqFF, r_gqTF, r_gqFT, r_not, r_lss, r_leq, r_gtr, r_geq, r_eql, r_neq, r_add, r_sub, r_min2, r_max2, r_min3, r_max3, r_fa, r_iaS, r_iaA, r_ex2a, r_ex2b, r_ex3a, r_ex3b, r_ex3c, r_nc, r_keepE, Nat.zero_add, Nat.add_zero, Nat.mul_one, Int.toNat_natCast, toNat_sub1, toNat_add1, decide_true, decide_false, Bool.not_true, Bool.not_false, if_true, if_false, Bool.false_eq_true, reduceCtorEq]
    exact ⟨by first | rfl | trivial, Kp.trans kall k5⟩
  · rw [hrl] at hb
    have hm : more = false := by
      cases hmm : more
      · rfl
      · have := hne.2 hmm; omega
    subst hm
    have hrf : r = false := by
      cases r with
      | false => rfl
      | true =>
        have h1 := (hr.1 rfl).1 1 (by rw [hrl]; omega)
        have h2 := h1.2
        have g : ∀ j, j < i → (List.replicate i ([1, 1] : List Int)).getD j [] = [1, 1] := fun j hj => by
          rw [List.getD_eq_getElem?_getD, List.getElem?_replicate, if_pos hj]; rfl
        simp only [upB, Bool.or_eq_true, decide_eq_true_eq] at h2
        rw [g 1 (by omega), g (1 - 1) (by omega), cmp11] at h2
        rcases h2 with h | h
        · exact absurd h (by decide)
        · exact absurd h (by decide)
    subst hrf
    refine ⟨_, rfl, ?_⟩
    simp (disch := omega) only [r_ln, r_pick, r_pickT, r_pickF, r_condT, r_condF, r_gdTT, r_gdFF, r_gdTF, r_gdFT, r_gqTT, r_gqFF, r_gqTF, r_gqFT, r_not, r_lss, r_leq, r_gtr, r_geq, r_eql, r_neq, r_add, r_sub, r_min2, r_max2, r_min3, r_max3, r_fa, r_iaS, r_iaA, r_ex2a, r_ex2b, r_ex3a, r_ex3b, r_ex3c, r_nc, r_keepE, Nat.zero_add, Nat.add_zero, Nat.mul_one, Int.toNat_natCast, toNat_sub1, toNat_add1, decide_true, decide_false, Bool.not_true, Bool.not_false, if_true, if_false, Bool.false_eq_true, reduceCtorEq, decide_eq_true (rfl : (0 : Int) = 0)]
    refine r_use fok18 (law_alive w4) rfl ?_
    rintro _ w5 ⟨rfl, k5⟩
    refine ⟨_, rfl, ?_⟩
    simp only [r_ln, r_pick, r_pickT, r_pickF, r_condT, r_condF, r_gdTT, r_gdFF, r_gdTF, r_gdFT, r_gqTT, r_gqFF, r_gqTF, r_gqFT, r_not, r_lss, r_leq, r_gtr, r_geq, r_eql, r_neq, r_add, r_sub, r_min2, r_max2, r_min3, r_max3, r_fa, r_iaS, r_iaA, r_ex2a, r_ex2b, r_ex3a, r_ex3b, r_ex3c, r_nc, r_keepE, Nat.zero_add, Nat.add_zero, Nat.mul_one, Int.toNat_natCast, toNat_sub1, toNat_add1, decide_true, decide_false, Bool.not_true, Bool.not_false, if_true, if_false, Bool.false_eq_true, reduceCtorEq]
    exact ⟨by first | rfl | trivial, Kp.trans kall k5⟩

end Go.Proofs.Ytgalbokmgffhkaa
