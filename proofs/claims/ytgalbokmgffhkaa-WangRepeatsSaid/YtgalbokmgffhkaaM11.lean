/- Texts of my own, merged by program: J3 J4 J5. -/
import Derived.Test.YtgalbokmgffhkaaM07
import Derived.Test.YtgalbokmgffhkaaM09
import Derived.Test.YtgalbokmgffhkaaM10
set_option linter.all false
/- Contracts: Lines, index, power, put of the specification. -/
namespace Go.Proofs.Ytgalbokmgffhkaa
open Go.Lf Go.RowKit Go.Wg

set_option maxRecDepth 100000 in
theorem power_calls {n k : Nat} (w : World) (hb : n ^ k ≤ 1000000) (hn : 0 < n) (hk : k ≤ 1000) : Calls Try.prog 69 #[.int .i64 n, .int .i64 k] w fun e w' => e = .returned (.int .i64 (n ^ k : Nat)) ∧ w = w' := by
  refine lift69 ?_
  unfold S69 S69L0
  refine ⟨fun t5 t6 wr => ∃ i : Nat, i ≤ k ∧ t6 = .int .i64 i ∧ t5 = .int .i64 (n ^ i : Nat) ∧ w = wr, fun _ t6 _ => k - (intOf t6).toNat, ⟨0, by omega, rfl, by simp, rfl⟩, ?_⟩
  rintro _ _ _ _ ⟨i, hi, rfl, rfl, rfl⟩
  by_cases hlt : i < k
  case neg =>
    have hlt' : ¬ (i : Int) < (k : Int) := by omega
    have : i = k := by omega
    subst this
    simp (disch := omega) only [r_ln, r_pick, r_pickT, r_pickF, r_condT, r_condF, r_gdTT, r_gdFF, r_gdTF, r_gdFT, r_gqTT, r_gqFF, r_gqTF, r_gqFT, r_not, r_lss, r_leq, r_gtr, r_geq, r_eql, r_neq, r_add, r_sub, r_min2, r_max2, r_min3, r_max3, r_fa, r_iaS, r_iaA, r_ex2a, r_ex2b, r_ex3a, r_ex3b, r_ex3c, r_nc, r_keepE, Nat.zero_add, Nat.add_zero, Nat.mul_one, Int.toNat_natCast, toNat_sub1, toNat_add1, decide_true, decide_false, Bool.not_true, Bool.not_false, if_true, if_false, Bool.false_eq_true, reduceCtorEq, hlt']
    exact ⟨by first | rfl | trivial, by first | rfl | trivial⟩
  have hlt' : (i : Int) < (k : Int) := by omega
  have hle : n ^ (i + 1) ≤ n ^ k := Nat.pow_le_pow_right hn (by omega)
  rw [Nat.pow_succ] at hle
  simp (disch := omega) only [r_ln, r_pick, r_pickT, r_pickF, r_condT, r_condF, r_gdTT, r_gdFF, r_gdTF, r_gdFT, r_gqTT, r_gqFF, r_gqTF, r_gqFT, r_not, r_lss, r_leq, r_gtr, r_geq, r_eql, r_neq, r_add, r_sub, r_min2, r_max2, r_min3, r_max3, r_fa, r_iaS, r_iaA, r_ex2a, r_ex2b, r_ex3a, r_ex3b, r_ex3c, r_nc, r_keepE, Nat.zero_add, Nat.add_zero, Nat.mul_one, Int.toNat_natCast, toNat_sub1, toNat_add1, decide_true, decide_false, Bool.not_true, Bool.not_false, if_true, if_false, Bool.false_eq_true, reduceCtorEq, decide_eq_true hlt']
  rw [r_mulN _ _ (by omega)]
  refine ⟨⟨i + 1, by omega, by go_num, by rw [Nat.pow_succ], by first | rfl | trivial⟩, by simp only [intOf]; omega⟩

set_option maxRecDepth 100000 in
theorem index107_calls {v : Value} {l : List Int} (x : Int) (w : World) (hr : RdInts w v l) : Calls Try.prog 107 #[v, .int .i64 x] w fun e w' => e = .returned (.int .i64 (idxI l x)) ∧ Kp w w' := by
  have hr' := hr
  obtain ⟨a, cap, rfl, hcap, _⟩ := hr.len
  refine lift107 ?_
  unfold S107 S107L0
  refine ⟨fun t8 wr => ∃ i : Nat, i ≤ l.length ∧ t8 = .int .i64 i ∧ x ∉ l.take i ∧ Kp w wr, fun t8 _ => l.length - (intOf t8).toNat, ⟨0, by omega, rfl, by simp, Kp.refl _⟩, ?_⟩
  rintro _ _ wr ⟨i, hi, rfl, hn, hkr⟩
  by_cases hlt : i < l.length
  case neg =>
    have hlt' : ¬ (i : Int) < (l.length : Int) := by omega
    simp (disch := omega) only [r_ln, r_pick, r_pickT, r_pickF, r_condT, r_condF, r_gdTT, r_gdFF, r_gdTF, r_gdFT, r_gqTT, r_gqFF, r_gqTF, r_gqFT, r_not, r_lss, r_leq, r_gtr, r_geq, r_eql, r_neq, r_add, r_sub, r_min2, r_max2, r_min3, r_max3, r_fa, r_iaS, r_iaA, r_ex2a, r_ex2b, r_ex3a, r_ex3b, r_ex3c, r_nc, r_keepE, Nat.zero_add, Nat.add_zero, Nat.mul_one, Int.toNat_natCast, toNat_sub1, toNat_add1, decide_true, decide_false, Bool.not_true, Bool.not_false, if_true, if_false, Bool.false_eq_true, reduceCtorEq, hlt']
    rw [List.take_of_length_le (by omega)] at hn
    exact ⟨by rw [idxI, if_neg hn], hkr⟩
  have hlt' : (i : Int) < (l.length : Int) := by omega
  obtain ⟨b1, o1, _, e1, hc⟩ := (hr'.below hkr).at hlt
  cases e1
  rw [getD_lt _ _ _ hlt] at hc
  have hii : (i : Int).toNat = i := by omega
  have hx : l[i]? = some l[i] := List.getElem?_eq_getElem hlt
  by_cases he : l[i] = x
  · simp (disch := omega) only [r_ln, r_pick, r_pickT, r_pickF, r_condT, r_condF, r_gdTT, r_gdFF, r_gdTF, r_gdFT, r_gqTT, r_gqFF, r_gqTF, r_gqFT, r_not, r_lss, r_leq, r_gtr, r_geq, r_eql, r_neq, r_add, r_sub, r_min2, r_max2, r_min3, r_max3, r_fa, r_iaS, r_iaA, r_ex2a, r_ex2b, r_ex3a, r_ex3b, r_ex3c, r_nc, r_keepE, Nat.zero_add, Nat.add_zero, Nat.mul_one, Int.toNat_natCast, toNat_sub1, toNat_add1, decide_true, decide_false, Bool.not_true, Bool.not_false, if_true, if_false, Bool.false_eq_true, reduceCtorEq, decide_eq_true hlt', hii, r_ld hc, decide_eq_true he]
    rw [he] at hx
    exact ⟨by rw [idx_first hx hn], hkr⟩
  · simp (disch := omega) only [r_ln, r_pick, r_pickT, r_pickF, r_condT, r_condF, r_gdTT, r_gdFF, r_gdTF, r_gdFT, r_gqTT, r_gqFF, r_gqTF, r_gqFT, r_not, r_lss, r_leq, r_gtr, r_geq, r_eql, r_neq, r_add, r_sub, r_min2, r_max2, r_min3, r_max3, r_fa, r_iaS, r_iaA, r_ex2a, r_ex2b, r_ex3a, r_ex3b, r_ex3c, r_nc, r_keepE, Nat.zero_add, Nat.add_zero, Nat.mul_one, Int.toNat_natCast, toNat_sub1, toNat_add1, decide_true, decide_false, Bool.not_true, Bool.not_false, if_true, if_false, Bool.false_eq_true, reduceCtorEq, decide_eq_true hlt', hii, r_ld hc, he]
    refine ⟨⟨i + 1, by omega, by go_num, ?_, hkr⟩, by simp only [intOf]; omega⟩
    intro hm
    rw [take_succ' _ _ hlt] at hm
    rcases List.mem_append.1 hm with h | h
    · exact hn h
    · exact he (by simp at h; exact h.symm)

theorem lineB_take {l : List Tile} {c i : Nat} (hi : i < l.length) : lineB (l.take (i + 1)) c = (lineB (l.take i) c || (decide (tN l[i] = (c : Int)) || decide (tS l[i] = (c : Int)))) := by
  unfold lineB
  rw [take_succ' _ _ hi, List.any_append]
  simp

set_option maxRecDepth 100000 in
theorem r70_1 {w0 w : World} {sv t3 : Value} {l : List Tile} {c : Nat} {P : List Int} {next : Value → Value → World → Prop} (hr : RdT w0 sv l) (hl : l.length ≤ 1000) (hP : IntsAt w0.heap.size w t3 P) (hPl : P.length ≤ 100) (hc : c ≤ 100) (hk : Kp w0 w)
    (hn : ∀ v w', IntsAt w0.heap.size w' v (P ++ if lineB l c = true then [(c : Int)] else []) → Kp w0 w' → next v (.int .i64 ((c : Int) + 1)) w') : S70L1 sv t3 (.int .i64 c) next w := by
  obtain ⟨sa, sc, es, _⟩ := hr.len
  have lns : ∀ K : Value → Prop, ln1 sv K = K (.int .i64 l.length) := fun K => by rw [es]; rfl
  unfold S70L1
  refine ⟨fun t5 t6 wr => ∃ i : Nat, i ≤ l.length ∧ t6 = .int .i64 i ∧ t5 = .bool (lineB (l.take i) c) ∧ Kp w wr, fun _ t6 _ => l.length - (intOf t6).toNat, ⟨0, by omega, rfl, rfl, Kp.refl _⟩, ?_⟩
  rintro _ _ _ wr ⟨i, hi, rfl, rfl, kr⟩
  have hk0 := hk
  have hk := Kp.trans hk0 kr
  have hP := hP.kp kr
  rw [lns]
  by_cases hlt : i < l.length
  case pos =>
    have hlt' : (i : Int) < (l.length : Int) := by omega
    obtain ⟨b, off, cap, e, _, hcell⟩ := (hr.kp hk).at (List.getElem?_eq_getElem hlt)
    have hii : (i : Int).toNat = i := by omega
    have ia : ∀ K : Value → Prop, iaS 4 sv (.int .i64 i) K = K (.pointer (some ⟨b, off + i * 4, none⟩)) := fun K => by rw [e, r_iaS _ _ _ _ _ _ _ (by omega) (by omega), hii]
    have htk := lineB_take (c := c) hlt
    generalize l[i] = t at *
    have c0 : wr.cell? ⟨b, off + i * 4, none⟩ = some (.int .i64 (tN t)) := hcell 0 _ rfl
    have c2 : wr.cell? ⟨b, off + i * 4 + 2, none⟩ = some (.int .i64 (tS t)) := hcell 2 _ rfl
    have go : ∀ b : Bool, b = lineB (l.take (i + 1)) c → (∃ j : Nat, j ≤ l.length ∧ Value.int .i64 ((i : Int) + 1) = .int .i64 j ∧ Value.bool b = .bool (lineB (l.take j) c) ∧ Kp w wr) ∧ l.length - (intOf (.int .i64 ((i : Int) + 1))).toNat < l.length - (intOf (.int .i64 (i : Int))).toNat := fun b hb => ⟨⟨i + 1, by omega, by go_num, by rw [hb], kr⟩, by simp only [intOf]; omega⟩
    cases hB : lineB (l.take i) c with
    | true =>
      simp (disch := omega) only [r_ln, r_pick, r_pickT, r_pickF, r_condT, r_condF, r_gdTT, r_gdFF, r_gdTF, r_gdFT, r_gqTT, r_gqFF, r_gqTF, r_gqFT, r_not, r_lss, r_leq, r_gtr, r_geq, r_eql, r_neq, r_add, r_sub, r_min2, r_max2, r_min3, r_max3, r_fa, r_iaS, r_iaA, r_ex2a, r_ex2b, r_ex3a, r_ex3b, r_ex3c, r_nc, r_keepE, Nat.zero_add, Nat.add_zero, Nat.mul_one, Int.toNat_natCast, toNat_sub1, toNat_add1, decide_true, decide_false, Bool.not_true, Bool.not_false, if_true, if_false, Bool.false_eq_true, reduceCtorEq, decide_eq_true hlt', r_gdU]
      exact go true (by rw [htk, hB]; rfl)
    | false =>
      by_cases g1 : tN t = (c : Int)
      · simp (disch := omega) only [r_ln, r_pick, r_pickT, r_pickF, r_condT, r_condF, r_gdTT, r_gdFF, r_gdTF, r_gdFT, r_gqTT, r_gqFF, r_gqTF, r_gqFT, r_not, r_lss, r_leq, r_gtr, r_geq, r_eql, r_neq, r_add, r_sub, r_min2, r_max2, r_min3, r_max3, r_fa, r_iaS, r_iaA, r_ex2a, r_ex2b, r_ex3a, r_ex3b, r_ex3c, r_nc, r_keepE, Nat.zero_add, Nat.add_zero, Nat.mul_one, Int.toNat_natCast, toNat_sub1, toNat_add1, decide_true, decide_false, Bool.not_true, Bool.not_false, if_true, if_false, Bool.false_eq_true, reduceCtorEq, decide_eq_true hlt', r_gdU, ia, r_ld c0, decide_eq_true g1]
        exact go true (by rw [htk, decide_eq_true g1, Bool.true_or, Bool.or_true])
      by_cases g2 : tS t = (c : Int)
      · simp (disch := omega) only [r_ln, r_pick, r_pickT, r_pickF, r_condT, r_condF, r_gdTT, r_gdFF, r_gdTF, r_gdFT, r_gqTT, r_gqFF, r_gqTF, r_gqFT, r_not, r_lss, r_leq, r_gtr, r_geq, r_eql, r_neq, r_add, r_sub, r_min2, r_max2, r_min3, r_max3, r_fa, r_iaS, r_iaA, r_ex2a, r_ex2b, r_ex3a, r_ex3b, r_ex3c, r_nc, r_keepE, Nat.zero_add, Nat.add_zero, Nat.mul_one, Int.toNat_natCast, toNat_sub1, toNat_add1, decide_true, decide_false, Bool.not_true, Bool.not_false, if_true, if_false, Bool.false_eq_true, reduceCtorEq, decide_eq_true hlt', r_gdU, ia, r_ld c0, g1, r_ld c2, decide_eq_true g2]
        exact go true (by rw [htk, decide_eq_true g2, Bool.or_true, Bool.or_true])
      · simp (disch := omega) only [r_ln, r_pick, r_pickT, r_pickF, r_condT, r_condF, r_gdTT, r_gdFF, r_gdTF, r_gdFT, r_gqTT, r_gqFF, r_gqTF, r_gqFT, r_not, r_lss, r_leq, r_gtr, r_geq, r_eql, r_neq, r_add, r_sub, r_min2, r_max2, r_min3, r_max3, r_fa, r_iaS, r_iaA, r_ex2a, r_ex2b, r_ex3a, r_ex3b, r_ex3c, r_nc, r_keepE, Nat.zero_add, Nat.add_zero, Nat.mul_one, Int.toNat_natCast, toNat_sub1, toNat_add1, decide_true, decide_false, Bool.not_true, Bool.not_false, if_true, if_false, Bool.false_eq_true, reduceCtorEq, decide_eq_true hlt', r_gdU, ia, r_ld c0, g1, r_ld c2, g2]
        exact go false (by rw [htk, decide_eq_false g1, decide_eq_false g2, hB]; rfl)
  have hlt' : ¬ (i : Int) < (l.length : Int) := by omega
  rw [List.take_of_length_le (by omega)]
  simp (disch := omega) only [r_lss, hlt', decide_false, r_condF]
  refine r_join1 (fun v w' => IntsAt w0.heap.size w' v (P ++ if lineB l c = true then [(c : Int)] else []) ∧ Kp w0 w') ?_ fun k' hk' => ?_
  · rintro v w' ⟨ho, kk⟩
    rw [r_add _ _ (by omega) (by omega)]
    exact hn v w' ho kk
  cases hB : lineB l c with
  | false =>
    rw [hB] at hk'
    simp only [r_condF]
    exact hk' _ _ ⟨by simpa using hP, hk⟩
  | true =>
    rw [hB] at hk'
    simp only [r_condT]
    refine r_pushRec (x := (c : Int)) slt30 iC_len rfl (bs30 _ _ _) (by intro u hu; simp [iC] at hu; rw [hu]; rfl) (by omega) hP (by omega) hk.size fun v w' ho hch _ => ?_
    exact hk' _ _ ⟨by simpa using ho, Kp.of_chg hk hch fun k e => (hP.lt e).1⟩

set_option maxRecDepth 100000 in
theorem lines_calls {sv : Value} {l : List Tile} (w : World) (hr : RdT w sv l) (hl : l.length ≤ 1000) : Calls Try.prog 70 #[sv] w fun e w' => ∃ v, e = .returned v ∧ IntsAt w.heap.size w' v (lineL l) ∧ Kp w w' := by
  refine lift70 ?_
  unfold S70 S70L0
  refine ⟨fun t3 t4 wr => ∃ c : Nat, c ≤ 8 ∧ t4 = .int .i64 c ∧ IntsAt w.heap.size wr t3 (((List.range c).filter (lineB l)).map fun c : Nat => (c : Int)) ∧ Kp w wr, fun _ t4 _ => 8 - (intOf t4).toNat, ⟨0, by omega, rfl, RecAt.nil, Kp.refl _⟩, ?_⟩
  rintro _ t3 _ wr ⟨c, hc, rfl, hP, kr⟩
  by_cases hlt : c < 8
  case neg =>
    have hlt' : ¬ (c : Int) ≤ 7 := by omega
    have ec : c = 8 := by omega
    subst ec
    simp (disch := omega) only [r_ln, r_pick, r_pickT, r_pickF, r_condT, r_condF, r_gdTT, r_gdFF, r_gdTF, r_gdFT, r_gqTT, r_gqFF, r_gqTF, r_gqFT, r_not, r_lss, r_leq, r_gtr, r_geq, r_eql, r_neq, r_add, r_sub, r_min2, r_max2, r_min3, r_max3, r_fa, r_iaS, r_iaA, r_ex2a, r_ex2b, r_ex3a, r_ex3b, r_ex3c, r_nc, r_keepE, Nat.zero_add, Nat.add_zero, Nat.mul_one, Int.toNat_natCast, toNat_sub1, toNat_add1, decide_true, decide_false, Bool.not_true, Bool.not_false, if_true, if_false, Bool.false_eq_true, reduceCtorEq, hlt']
    exact ⟨_, rfl, hP, kr⟩
  have hlt' : (c : Int) ≤ 7 := by omega
  simp (disch := omega) only [r_ln, r_pick, r_pickT, r_pickF, r_condT, r_condF, r_gdTT, r_gdFF, r_gdTF, r_gdFT, r_gqTT, r_gqFF, r_gqTF, r_gqFT, r_not, r_lss, r_leq, r_gtr, r_geq, r_eql, r_neq, r_add, r_sub, r_min2, r_max2, r_min3, r_max3, r_fa, r_iaS, r_iaA, r_ex2a, r_ex2b, r_ex3a, r_ex3b, r_ex3c, r_nc, r_keepE, Nat.zero_add, Nat.add_zero, Nat.mul_one, Int.toNat_natCast, toNat_sub1, toNat_add1, decide_true, decide_false, Bool.not_true, Bool.not_false, if_true, if_false, Bool.false_eq_true, reduceCtorEq, decide_eq_true hlt']
  have hPl : (((List.range c).filter (lineB l)).map fun c : Nat => (c : Int)).length ≤ c := by
    rw [List.length_map]
    have := List.length_filter_le (lineB l) (List.range c)
    simpa using this
  refine r70_1 hr hl hP (by omega) (by omega) kr fun v w' ho kk => ?_
  refine ⟨⟨c + 1, by omega, by go_num, ?_, kk⟩, by simp only [intOf]; omega⟩
  rw [List.range_succ, List.filter_append, List.map_append]
  by_cases h : lineB l c = true
  · rw [if_pos h] at ho
    simpa [h] using ho
  · rw [if_neg h] at ho
    simpa [h] using ho

def putV (o : Option Nat) : Int := match o with
  | none => -1
  | some s => (s : Int)

end Go.Proofs.Ytgalbokmgffhkaa

/- Contracts: put, capped of the specification. -/
namespace Go.Proofs.Ytgalbokmgffhkaa
open Go.Lf Go.RowKit Go.Wg

theorem capped_calls (n : Nat) (w : World) : Calls Try.prog 88 #[.int .i64 n] w fun e w' => e = .returned (.int .i64 (capI n)) ∧ w = w' := by
  refine lift88 ?_
  unfold S88
  simp only [r_ln, r_pick, r_pickT, r_pickF, r_condT, r_condF, r_gdTT, r_gdFF, r_gdTF, r_gdFT, r_gqTT, r_gqFF, r_gqTF, r_gqFT, r_not, r_lss, r_leq, r_gtr, r_geq, r_eql, r_neq, r_add, r_sub, r_min2, r_max2, r_min3, r_max3, r_fa, r_iaS, r_iaA, r_ex2a, r_ex2b, r_ex3a, r_ex3b, r_ex3c, r_nc, r_keepE, Nat.zero_add, Nat.add_zero, Nat.mul_one, Int.toNat_natCast, toNat_sub1, toNat_add1, decide_true, decide_false, Bool.not_true, Bool.not_false, if_true, if_false, Bool.false_eq_true, reduceCtorEq]
  exact ⟨by first | rfl | trivial, by first | rfl | trivial⟩

abbrev C80 (t1 t2 t3 t4 t5 t20 t30 : Value) (w : World) (K : Value → Prop) : Prop :=
  binQ Try.prog w .geq 3 false t3 t2 fun t33 =>
  gdQ t33 true (fun k => k t1) fun t35 =>
  gdQ t33 true (fun k => k t30) fun t36 =>
  gdQ t33 true (fun k => iaS 1 t35 t36 k) fun t37 =>
  gdQ t33 true (fun k => ld1 w t37 k) fun t38 =>
  gdQ t33 true (fun k => fa1 t5 0 k) fun t39 =>
  gdQ t33 true (fun k => ld1 w t39 k) fun t40 =>
  gdQ t33 true (fun k => binQ Try.prog w .neq 3 false t38 t40 k) fun t41 =>
  pickQ t33 t41 (.bool false) fun t42 =>
  gdQ t42 false (fun k => k t20) fun t44 =>
  gdQ t42 false (fun k => binQ Try.prog w .gtr 3 true t44 (.int .i64 0) k) fun t45 =>
  gdQ t42 false (fun k => k t45) fun t46 =>
  gdQ t46 true (fun k => k t4) fun t47 =>
  gdQ t46 true (fun k => k (.int .i64 8)) fun t48 =>
  gdQ t46 true (fun k => binQ Try.prog w .rem 3 false t47 t48 k) fun t49 =>
  gdQ t46 true (fun k => fa1 t5 3 k) fun t50 =>
  gdQ t46 true (fun k => ld1 w t50 k) fun t51 =>
  gdQ t46 true (fun k => binQ Try.prog w .neq 3 false t49 t51 k) fun t52 =>
  gdQ t42 false (fun k => pickQ t46 t52 (.bool false) k) fun t53 =>
  pickQ t42 (.bool true) t53 fun t54 =>
  K t54

theorem r_rem8 {w : World} {K : Value → Prop} {t : TypeId} {lit : Bool} (s : Nat) : binQ Try.prog w .rem t lit (.int .i64 s) (.int .i64 8) K = K (.int .i64 ((s % 8 : Nat) : Int)) := r_remN s 8 (by omega)
theorem r_mul8 {w : World} {K : Value → Prop} {t : TypeId} {lit : Bool} (s : Nat) (hs : s ≤ 1000000000) : binQ Try.prog w .mul t lit (.int .i64 s) (.int .i64 8) K = K (.int .i64 ((s * 8 : Nat) : Int)) := r_mulN s 8 (by omega)

set_option maxRecDepth 100000 in
theorem cond80 {w : World} {lv : Value} {l : List Tile} {t : Tile} {W p s b5 : Nat} {K : Value → Prop} (hL : RdInts w lv (lineL l)) (hn : 0 < (lineL l).length) (h5 : w.heap[b5]? = some (.cells (tlV t).cells 32 (0, 0))) (hK : K (.bool (decide (misfit l W p s t)))) :
    C80 lv (.int .i64 W) (.int .i64 p) (.int .i64 s) (.pointer (some ⟨b5, 0, none⟩)) (.int .i64 (p % W : Nat)) (.int .i64 (aboveS l W p s : Nat)) w K := by
  have habl : aboveS l W p s < (lineL l).length := Nat.mod_lt _ hn
  have c0 : w.cell? ⟨b5, 0, none⟩ = some (.int .i64 (tN t)) := by rw [cell_row h5]; rfl
  have c3 : w.cell? ⟨b5, 3, none⟩ = some (.int .i64 (tW t)) := by rw [cell_row h5]; rfl
  obtain ⟨lb, lo, lcp, rfl, hla⟩ := hL.at habl
  have hii : ((aboveS l W p s : Nat) : Int).toNat = aboveS l W p s := by omega
  unfold C80
  have last : ∀ b : Bool, (b = true ↔ misfit l W p s t) → K (.bool b) := fun b hb => by
    have : b = decide (misfit l W p s t) := by
      cases b with
      | true => exact (decide_eq_true (hb.1 rfl)).symm
      | false => exact (decide_eq_false fun h => absurd (hb.2 h) Bool.false_ne_true).symm
    rw [this]; exact hK
  have second : ¬ (W ≤ p ∧ (lineL l).getD (aboveS l W p s) 0 ≠ tN t) → ∀ x : Bool, x = false →
    (gdQ (.bool x) false (fun k => k (.int .i64 (p % W : Nat))) fun t44 =>
      gdQ (.bool x) false (fun k => binQ Try.prog w .gtr 3 true t44 (.int .i64 0) k) fun t45 =>
      gdQ (.bool x) false (fun k => k t45) fun t46 =>
      gdQ t46 true (fun k => k (.int .i64 s)) fun t47 =>
      gdQ t46 true (fun k => k (.int .i64 8)) fun t48 =>
      gdQ t46 true (fun k => binQ Try.prog w .rem 3 false t47 t48 k) fun t49 =>
      gdQ t46 true (fun k => fa1 (.pointer (some ⟨b5, 0, none⟩)) 3 k) fun t50 =>
      gdQ t46 true (fun k => ld1 w t50 k) fun t51 =>
      gdQ t46 true (fun k => binQ Try.prog w .neq 3 false t49 t51 k) fun t52 =>
      gdQ (.bool x) false (fun k => pickQ t46 t52 (.bool false) k) fun t53 =>
      pickQ (.bool x) (.bool true) t53 fun t54 => K t54) := fun h1 x hx => by
    subst hx
    by_cases g3 : 0 < p % W
    case neg =>
      have g3' : ¬ (0 : Int) < ((p % W : Nat) : Int) := by omega
      simp (disch := omega) only [r_ln, r_pick, r_pickT, r_pickF, r_condT, r_condF, r_gdTT, r_gdFF, r_gdTF, r_gdFT, r_gqTT, r_gqFF, r_gqTF, r_gqFT, r_not, r_lss, r_leq, r_gtr, r_geq, r_eql, r_neq, r_add, r_sub, r_min2, r_max2, r_min3, r_max3, r_fa, r_iaS, r_iaA, r_ex2a, r_ex2b, r_ex3a, r_ex3b, r_ex3c, r_nc, r_keepE, Nat.zero_add, Nat.add_zero, Nat.mul_one, Int.toNat_natCast, toNat_sub1, toNat_add1, decide_true, decide_false, Bool.not_true, Bool.not_false, if_true, if_false, Bool.false_eq_true, reduceCtorEq, g3', r_gqU]
      exact last false ⟨fun h => absurd h Bool.false_ne_true, fun h => by
        rcases h with h | h
        · exact absurd h h1
        · exact absurd h.1 g3⟩
    have g3' : (0 : Int) < ((p % W : Nat) : Int) := by omega
    simp (disch := omega) only [r_ln, r_pick, r_pickT, r_pickF, r_condT, r_condF, r_gdTT, r_gdFF, r_gdTF, r_gdFT, r_gqTT, r_gqFF, r_gqTF, r_gqFT, r_not, r_lss, r_leq, r_gtr, r_geq, r_eql, r_neq, r_add, r_sub, r_min2, r_max2, r_min3, r_max3, r_fa, r_iaS, r_iaA, r_ex2a, r_ex2b, r_ex3a, r_ex3b, r_ex3c, r_nc, r_keepE, Nat.zero_add, Nat.add_zero, Nat.mul_one, Int.toNat_natCast, toNat_sub1, toNat_add1, decide_true, decide_false, Bool.not_true, Bool.not_false, if_true, if_false, Bool.false_eq_true, reduceCtorEq, decide_eq_true g3', r_rem8, r_ld c3, r_gqU]
    by_cases g4 : ((s % 8 : Nat) : Int) = tW t
    · simp only [decide_eq_true g4, Bool.not_true]
      exact last false ⟨fun h => absurd h Bool.false_ne_true, fun h => by
        rcases h with h | h
        · exact absurd h h1
        · exact absurd g4 h.2⟩
    · simp only [g4, decide_false, Bool.not_false]
      exact last true ⟨fun _ => .inr ⟨g3, g4⟩, fun _ => rfl⟩
  by_cases g1 : W ≤ p
  case neg =>
    have g1' : ¬ (W : Int) ≤ (p : Int) := by omega
    simp (disch := omega) only [r_geq, g1', decide_false, r_gqFT, r_pickF]
    exact second (fun h => g1 h.1) false rfl
  have g1' : (W : Int) ≤ (p : Int) := by omega
  by_cases g2 : (lineL l).getD (aboveS l W p s) 0 = tN t
  · simp (disch := omega) only [r_geq, decide_eq_true g1', r_gqTT, r_iaS, hii, Nat.mul_one, r_ld hla, r_fa, Nat.zero_add, r_ld c0, r_neq, decide_eq_true g2, Bool.not_true, r_pickT]
    have := second (fun h => h.2 g2) false rfl
    simp (disch := omega) only [r_fa, Nat.zero_add] at this
    exact this
  · simp (disch := omega) only [r_ln, r_pick, r_pickT, r_pickF, r_condT, r_condF, r_gdTT, r_gdFF, r_gdTF, r_gdFT, r_gqTT, r_gqFF, r_gqTF, r_gqFT, r_not, r_lss, r_leq, r_gtr, r_geq, r_eql, r_neq, r_add, r_sub, r_min2, r_max2, r_min3, r_max3, r_fa, r_iaS, r_iaA, r_ex2a, r_ex2b, r_ex3a, r_ex3b, r_ex3c, r_nc, r_keepE, Nat.zero_add, Nat.add_zero, Nat.mul_one, Int.toNat_natCast, toNat_sub1, toNat_add1, decide_true, decide_false, Bool.not_true, Bool.not_false, if_true, if_false, Bool.false_eq_true, reduceCtorEq, decide_eq_true g1', hii, r_ld hla, r_ld c0, g2, r_gqU]
    exact last true ⟨fun _ => .inl ⟨g1, g2⟩, fun _ => rfl⟩

set_option maxRecDepth 100000 in
set_option maxHeartbeats 1000000 in
theorem put_calls {lv : Value} {l : List Tile} {t : Tile} {W p s : Nat} (w : World) (hL : RdInts w lv (lineL l)) (hset : IsSet l) (ht : t ∈ l) (hW : 0 < W ∧ W ≤ 4) (hp : p ≤ 100) (hs : s < (lineL l).length ^ W * 8) (hb : (lineL l).length ^ W * 8 ≤ 60000) :
    Calls Try.prog 80 #[tlV t, lv, .int .i64 W, .int .i64 p, .int .i64 s] w fun e w' => e = .returned (.int .i64 (putV (putM l W p s t))) ∧ Kp w w' := by
  have hn := line_pos hset
  have hn8 := line_len l
  have hlt := mem_line hset.cols ht
  have hcr := cols_range (hset.cols t ht)
  have hxW : p % W < W := Nat.mod_lt _ hW.1
  have hpx : (lineL l).length ^ (p % W) ≤ (lineL l).length ^ W := Nat.pow_le_pow_right hn (by omega)
  have hpp : 0 < (lineL l).length ^ (p % W) := Nat.pow_pos hn
  have hL' := hL
  obtain ⟨la, lc, rfl, _, _⟩ := hL.len
  have hidx : idxI (lineL l) (tS t) = ((lidx l (tS t) : Nat) : Int) := by rw [idxI, if_pos hlt.2]; rfl
  have hil := lidx_lt hlt.2
  refine lift80 ?_
  unfold S80
  refine r_box fun b5 w1 e5 s5 h5 k5 => ?_
  have h5' : w1.heap[b5]? = some (.cells (tlV t).cells 32 (0, 0)) := h5
  simp only [r_ln]
  rw [r_remN _ _ hW.1]
  refine r_use fok69 (power_calls (n := (lineL l).length) (k := p % W) w1 (by omega) hn (by omega)) rfl ?_
  rintro _ _ ⟨rfl, rfl⟩
  refine ⟨_, rfl, ?_⟩
  rw [r_mul8 _ (by omega), r_quoN _ _ (by omega) (by omega), r_remN _ _ hn]
  have hab : s / ((lineL l).length ^ (p % W) * 8) % (lineL l).length = aboveS l W p s := rfl
  rw [hab]
  have habl : aboveS l W p s < (lineL l).length := Nat.mod_lt _ hn
  have habs : aboveS l W p s * ((lineL l).length ^ (p % W) * 8) ≤ s := by
    have h1 : aboveS l W p s ≤ s / ((lineL l).length ^ (p % W) * 8) := Nat.mod_le _ _
    exact Nat.le_trans (Nat.mul_le_mul_right _ h1) (Nat.div_mul_le_self _ _)
  have habm : s % 8 ≤ s - aboveS l W p s * ((lineL l).length ^ (p % W) * 8) := by
    have e : aboveS l W p s * ((lineL l).length ^ (p % W) * 8) = 8 * (aboveS l W p s * (lineL l).length ^ (p % W)) := by rw [← Nat.mul_assoc, Nat.mul_comm]
    rw [e] at habs ⊢
    omega
  have hmul2 : lidx l (tS t) * ((lineL l).length ^ (p % W) * 8) ≤ 8 * 60000 := Nat.mul_le_mul (by omega) (by omega)
  have hput : putM l W p s t = if misfit l W p s t then none else some (s - aboveS l W p s * ((lineL l).length ^ (p % W) * 8) + lidx l (tS t) * ((lineL l).length ^ (p % W) * 8) - s % 8 + (tE t).toNat) := rfl
  refine r_drew fun w2 k2 _ => ?_
  have k02 := Kp.trans k5 k2
  have h52 := block_below h5' k2
  refine cond80 (hL'.below k02) hn h52 ?_
  by_cases hm : misfit l W p s t
  · simp only [decide_eq_true hm, r_condT]
    exact ⟨by rw [hput, if_pos hm]; rfl, k02⟩
  simp only [hm, decide_false, r_condF]
  rw [if_neg hm] at hput
  rw [hput]
  refine r_drew fun w3 k3 _ => ?_
  have k03 := Kp.trans k02 k3
  have h53 := block_below h52 k3
  have c1 : w3.cell? ⟨b5, 1, none⟩ = some (.int .i64 (tE t)) := by rw [cell_row h53]; rfl
  have c2 : w3.cell? ⟨b5, 2, none⟩ = some (.int .i64 (tS t)) := by rw [cell_row h53]; rfl
  rw [r_mulN _ _ (by omega)]
  simp only [r_fa, Nat.zero_add, r_ld c2]
  rw [r_sub _ _ (by omega) (by omega), r_rem8]
  simp only [r_ld c1]
  refine r_use fok107 (index107_calls (tS t) w3 (hL'.below k03)) rfl ?_
  rintro _ w4 ⟨rfl, k4⟩
  refine ⟨_, rfl, k4, ?_⟩
  dsimp only
  rw [hidx, r_mulN _ _ (by omega)]
  generalize aboveS l W p s * ((lineL l).length ^ (p % W) * 8) = A at *
  generalize lidx l (tS t) * ((lineL l).length ^ (p % W) * 8) = B at *
  rw [r_add _ _ (by omega) (by omega), r_sub _ _ (by omega) (by omega), r_add _ _ (by omega) (by omega)]
  refine ⟨?_, Kp.trans k03 k4⟩
  congr 2
  show _ = ((_ : Nat) : Int)
  omega

end Go.Proofs.Ytgalbokmgffhkaa

/- Contract: ways of the specification. -/
namespace Go.Proofs.Ytgalbokmgffhkaa
open Go.Lf Go.RowKit Go.Wg

theorem encD_ex {n : Nat} (hn : 0 < n) : ∀ (W s : Nat), s < n ^ W → ∃ d : List Nat, d.length = W ∧ (∀ a ∈ d, a < n) ∧ encD n d = s
  | 0, s, h => ⟨[], rfl, by simp, by rw [encD]; simp at h; omega⟩
  | W + 1, s, h => by
    have h1 : s / n < n ^ W := by
      rw [Nat.pow_succ] at h
      exact Nat.div_lt_of_lt_mul (by rw [Nat.mul_comm]; exact h)
    obtain ⟨d, d1, d2, d3⟩ := encD_ex hn W (s / n) h1
    refine ⟨s % n :: d, by simp [d1], fun a ha => ?_, ?_⟩
    · rcases List.mem_cons.1 ha with rfl | ha
      · exact Nat.mod_lt _ hn
      · exact d2 a ha
    · rw [encD, d3]
      exact Nat.mod_add_div s n
theorem put_lt {l : List Tile} (hs : IsSet l) {W p s s' : Nat} {t : Tile} (ht : t ∈ l) (hW : 0 < W) (hlt : s < (lineL l).length ^ W * 8) (h : putM l W p s t = some s') : s' < (lineL l).length ^ W * 8 := by
  have hn := line_pos hs
  obtain ⟨d, d1, d2, d3⟩ := encD_ex hn W (s / 8) (Nat.div_lt_of_lt_mul (by rw [Nat.mul_comm]; exact hlt))
  have he : s = encS (lineL l).length d (s % 8) := by rw [encS, d3]; omega
  rw [he, put_enc hs.cols ht d1 hW d2 (Nat.mod_lt _ (by omega))] at h
  split at h
  · cases h
  · injection h with h
    have hm := (mem_line hs.cols ht).2
    have hl := encD_lt (n := (lineL l).length) (d := d.set (p % W) (lidx l (tS t))) fun a ha => by
      rcases List.mem_or_eq_of_mem_set ha with h1 | h1
      · exact d2 a h1
      · rw [h1]; exact lidx_lt hm
    have hcr := cols_range (hs.cols t ht)
    rw [List.length_set, d1] at hl
    rw [← h, encS]
    omega

def allS (l : List Tile) (W : Nat) : Nat := (lineL l).length ^ W * 8
def wayL (l : List Tile) (W H p : Nat) : List Int := (List.range (allS l W)).map fun s => capI (Wq l W H (W * H - p) s)
theorem wayL_len (l : List Tile) (W H p : Nat) : (wayL l W H p).length = allS l W := by simp [wayL]
theorem wayL_at {l : List Tile} {W H p s : Nat} (hs : s < allS l W) : (wayL l W H p).getD s 0 = capI (Wq l W H (W * H - p) s) := by
  rw [getD_lt _ _ _ (by rw [wayL_len]; exact hs)]
  simp [wayL]

theorem cappedI_calls (x : Int) (w : World) : Calls Try.prog 88 #[.int .i64 x] w fun e w' => e = .returned (.int .i64 (min x 1099511627777)) ∧ w = w' := by
  refine lift88 ?_
  unfold S88
  simp only [r_ln, r_pick, r_pickT, r_pickF, r_condT, r_condF, r_gdTT, r_gdFF, r_gdTF, r_gdFT, r_gqTT, r_gqFF, r_gqTF, r_gqFT, r_not, r_lss, r_leq, r_gtr, r_geq, r_eql, r_neq, r_add, r_sub, r_min2, r_max2, r_min3, r_max3, r_fa, r_iaS, r_iaA, r_ex2a, r_ex2b, r_ex3a, r_ex3b, r_ex3c, r_nc, r_keepE, Nat.zero_add, Nat.add_zero, Nat.mul_one, Int.toNat_natCast, toNat_sub1, toNat_add1, decide_true, decide_false, Bool.not_true, Bool.not_false, if_true, if_false, Bool.false_eq_true, reduceCtorEq]
  exact ⟨by first | rfl | trivial, by first | rfl | trivial⟩
theorem st30 {w : World} {a : Addr} {x : Option Addr} {n c : Nat} {v : Value} {K : World → Prop} (hc : w.cell? a = some v) (hf : w.frozen? a = false) : stW Try.prog 30 (.pointer (some a)) (.slice x n c) w K = K (w.setCell a (.slice x n c)) := by
  have e : stW Try.prog 30 (.pointer (some a)) (.slice x n c) w K = ((w.cell? (a.add 0)).isSome = true ∧ w.frozen? (a.add 0) = false ∧ true = true ∧ K (w.setCell (a.add 0) (.slice x n c))) := by kernel_rfl
  rw [e]
  have ha : a.add 0 = a := rfl
  simp [ha, hc, hf]
/-- make([][]int, n) -/
theorem mk23 {n : Nat} {w : World} {K : Value → World → Prop} (hn : n ≤ 1000000) (h : ∀ v w', RecAt 30 1 vE w.heap.size w' v (List.replicate n nilS) → Kp w w' → K v w') :
    mkW Try.prog 23 (.int .i64 n) (.int .i64 n) w K := by
  have e : ∀ (l : Int) (K : Value → World → Prop), mkW Try.prog 23 (.int .i64 l) (.int .i64 l) w K = (0 ≤ l ∧ l ≤ l ∧ l ≤ 4611686018427387904 ∧ ((24 : Nat) : Int) * l ≤ 281474976710656 ∧ 0 < 1 ∧
      K (.slice (some ⟨w.heap.size, 0, none⟩) l.toNat l.toNat) (w.alloc (.cells (mkCells #[.slice none 0 0] (l.toNat * 1)) 30))) := fun l K => by kernel_rfl
  rw [e]
  refine ⟨by omega, by omega, by omega, by omega, by omega, ?_⟩
  rw [Nat.mul_one, mkCells_one, Int.toNat_natCast]
  exact h _ _ (made_rec (x := nilS) (enc := vE) rfl hn w) (below_alloc _)

/-- The rows from p on are there, each in a block that is not g. -/
structure WSt (l : List Tile) (W H base : Nat) (v31 : Value) (vs : List Value) (p : Nat) (g : Nat) (w : World) : Prop where
  out : RecAt 30 1 vE base w v31 vs
  len : vs.length = W * H + 1
  rows : ∀ q u, p ≤ q → vs[q]? = some u → IntsAt base w u (wayL l W H q) ∧ ∀ k, u.ownBlock = some k → k ≠ g
theorem WSt.later {l : List Tile} {W H base p g : Nat} {v31 : Value} {vs : List Value} {w w' : World} (h : WSt l W H base v31 vs p g w) (k : Kp w w') : WSt l W H base v31 vs p g w' :=
  ⟨h.out.kp k, h.len, fun q u hq hu => ⟨(h.rows q u hq hu).1.kp k, (h.rows q u hq hu).2⟩⟩
/-- A store into the block g. -/
theorem WSt.store {l : List Tile} {W H base p g : Nat} {v31 : Value} {vs : List Value} {w w' : World} (h : WSt l W H base v31 vs p g w) (hg : ∀ k, v31.ownBlock = some k → k ≠ g) (k : Chg (fun q => q = g) w w') : WSt l W H base v31 vs p g w' :=
  ⟨h.out.chg k fun q hq e => hg q hq e, h.len, fun q u hq hu => ⟨(h.rows q u hq hu).1.chg k fun x hx e => (h.rows q u hq hu).2 x hx e, (h.rows q u hq hu).2⟩⟩

/-- What a tile adds. -/
def addW (l : List Tile) (W H p s : Nat) (t : Tile) : Nat := match putM l W p s t with
  | some s' => Wq l W H (W * H - (p + 1)) s'
  | none => 0
theorem Wq_tot {l : List Tile} {W H p s : Nat} (hp : p < W * H) : Wq l W H (W * H - p) s = tot (addW l W H p s) l := by
  obtain ⟨q, hq⟩ : ∃ q, W * H - p = q + 1 := ⟨W * H - p - 1, by omega⟩
  rw [hq, Wq]
  have e1 : W * H - (q + 1) = p := by omega
  have e2 : W * H - (p + 1) = q := by omega
  rw [e1]
  refine tot_congr fun t _ => ?_
  rw [addW, e2]
  cases putM l W p s t <;> rfl

set_option maxRecDepth 100000 in
set_option maxHeartbeats 800000 in
/-- One state: the sum over the tiles. -/
theorem r75_3 {l : List Tile} {W H base p g s : Nat} {sv lv v31 u0 : Value} {vs : List Value} {R0 : List Int} {w0 w : World} {next : Value → World → Prop} (hset : IsSet l) (hW : 1 ≤ W ∧ W ≤ 4) (hH : 1 ≤ H ∧ H ≤ 4) (hall : allS l W ≤ 60000) (hr : RdT w0 sv l) (hL : RdInts w0 lv (lineL l)) (hk : Kp w0 w)
    (hp : p < W * H) (hs : s < allS l W) (S : WSt l W H base v31 vs (p + 1) g w) (hv : ∀ k, v31.ownBlock = some k → k ≠ g) (hup : vs[p]? = some u0) (hu0 : IntsAt base w u0 R0) (hR0 : R0.length = allS l W) (hg : u0.ownBlock = some g)
    (hn : ∀ w', Kp w0 w' ∨ True → WSt l W H base v31 vs (p + 1) g w' → IntsAt base w' u0 (R0.set s (capI (Wq l W H (W * H - p) s))) → (∃ wm, Kp w wm ∧ Chg (fun q => q = g) wm w') → next (.int .i64 ((s : Int) + 1)) w') :
    S75L3 sv (.int .i64 W) (.int .i64 p) (.int .i64 s) lv v31 next w := by
  have hWH : W * H ≤ 16 := Nat.mul_le_mul hW.2 hH.2
  obtain ⟨sa, sc, es, _⟩ := hr.len
  have lns : ∀ K : Value → Prop, ln1 sv K = K (.int .i64 l.length) := fun K => by rw [es]; rfl
  have hlm := hset.most
  unfold S75L3
  refine ⟨fun t15 t16 wr => ∃ i : Nat, i ≤ l.length ∧ t16 = .int .i64 i ∧ t15 = .int .i64 (capI (tot (addW l W H p s) (l.take i))) ∧ Kp w wr, fun _ t16 _ => l.length - (intOf t16).toNat, ⟨0, by omega, rfl, rfl, Kp.refl _⟩, ?_⟩
  rintro _ _ _ wr ⟨i, hi, rfl, rfl, kr⟩
  rw [lns]
  have Sr := S.later kr
  have hlenv := S.len
  by_cases hlt : i < l.length
  case neg =>
    have hlt' : ¬ (i : Int) < (l.length : Int) := by omega
    rw [List.take_of_length_le (by omega), ← Wq_tot hp]
    obtain ⟨ob, oo, oc, eo, _, hco⟩ := (Sr.out.rd vE_len).at hup
    have co : wr.cell? ⟨ob, oo + p, none⟩ = some u0 := by
      have := hco 0 _ rfl
      simpa using this
    obtain ⟨g', cap, eu, hbg, hcell, hfr, hput⟩ := IntsAt.put (hu0.kp kr) (q := s) (by omega) (capI (Wq l W H (W * H - p) s))
    have hgg : g' = g := by
      rw [eu] at hg
      injection hg
    subst hgg
    have hpp : (p : Int).toNat = p := by omega
    have hss : (s : Int).toNat = s := by omega
    rw [eo] at *
    rw [eu] at co
    simp (disch := omega) only [r_ln, r_pick, r_pickT, r_pickF, r_condT, r_condF, r_gdTT, r_gdFF, r_gdTF, r_gdFT, r_gqTT, r_gqFF, r_gqTF, r_gqFT, r_not, r_lss, r_leq, r_gtr, r_geq, r_eql, r_neq, r_add, r_sub, r_min2, r_max2, r_min3, r_max3, r_fa, r_iaS, r_iaA, r_ex2a, r_ex2b, r_ex3a, r_ex3b, r_ex3c, r_nc, r_keepE, Nat.zero_add, Nat.add_zero, Nat.mul_one, Int.toNat_natCast, toNat_sub1, toNat_add1, decide_true, decide_false, Bool.not_true, Bool.not_false, if_true, if_false, Bool.false_eq_true, reduceCtorEq, hlt', hpp, r_ld co, hss]
    rw [st3 hcell hfr]
    have hch : Chg (fun q => q = g') wr (wr.setCell ⟨g', s, none⟩ (.int .i64 (capI (Wq l W H (W * H - p) s)))) := Chg.setCell _ _ rfl
    try simp (disch := omega) only [r_ln, r_pick, r_pickT, r_pickF, r_condT, r_condF, r_gdTT, r_gdFF, r_gdTF, r_gdFT, r_gqTT, r_gqFF, r_gqTF, r_gqFT, r_not, r_lss, r_leq, r_gtr, r_geq, r_eql, r_neq, r_add, r_sub, r_min2, r_max2, r_min3, r_max3, r_fa, r_iaS, r_iaA, r_ex2a, r_ex2b, r_ex3a, r_ex3b, r_ex3c, r_nc, r_keepE, Nat.zero_add, Nat.add_zero, Nat.mul_one, Int.toNat_natCast, toNat_sub1, toNat_add1, decide_true, decide_false, Bool.not_true, Bool.not_false, if_true, if_false, Bool.false_eq_true, reduceCtorEq]
    exact hn _ (.inr trivial) (Sr.store hv hch) hput ⟨wr, kr, hch⟩
  have hlt' : (i : Int) < (l.length : Int) := by omega
  obtain ⟨b, off, cap, e, _, hcell⟩ := (hr.kp (Kp.trans hk kr)).at (List.getElem?_eq_getElem hlt)
  have hii : (i : Int).toNat = i := by omega
  have ia : ∀ K : Value → Prop, iaS 4 sv (.int .i64 i) K = K (.pointer (some ⟨b, off + i * 4, none⟩)) := fun K => by rw [e, r_iaS _ _ _ _ _ _ _ (by omega) (by omega), hii]
  have htm := List.getElem_mem hlt
  have hstep : tot (addW l W H p s) (l.take (i + 1)) = tot (addW l W H p s) (l.take i) + addW l W H p s l[i] := by
    rw [take_succ' _ _ hlt, tot_append]; simp [tot]
  generalize l[i] = t at *
  have ev : ∀ t : Tile, Value.agg (tlC t).toArray = tlV t := fun t => rfl
  simp (disch := omega) only [r_lss, decide_eq_true hlt', r_condT, ia, r_ldCells (tlC_len t) hcell, ev]
  refine r_use fok80 (put_calls (p := p) (s := s) wr (hL.below (Kp.trans hk kr)) hset htm hW (by omega) hs hall) rfl ?_
  rintro _ w2 ⟨rfl, k2⟩
  refine ⟨_, rfl, ?_⟩
  have kr2 := Kp.trans kr k2
  simp only [r_geq]
  refine r_join1 (fun v w' => v = .int .i64 (capI (tot (addW l W H p s) (l.take (i + 1)))) ∧ Kp w w') ?_ fun k' hk' => ?_
  · rintro v w' ⟨rfl, kk⟩
    rw [r_add _ _ (by omega) (by omega)]
    exact ⟨⟨i + 1, by omega, by go_num, rfl, kk⟩, by simp only [intOf]; omega⟩
  rw [hstep] at hk'
  cases hpm : putM l W p s t with
  | none =>
    have ha : addW l W H p s t = 0 := by rw [addW, hpm]
    rw [ha, Nat.add_zero] at hk'
    have hneg : ¬ (0 : Int) ≤ -1 := by decide
    simp (disch := omega) only [putV, r_ln, r_pick, r_pickT, r_pickF, r_condT, r_condF, r_gdTT, r_gdFF, r_gdTF, r_gdFT, r_gqTT, r_gqFF, r_gqTF, r_gqFT, r_not, r_lss, r_leq, r_gtr, r_geq, r_eql, r_neq, r_add, r_sub, r_min2, r_max2, r_min3, r_max3, r_fa, r_iaS, r_iaA, r_ex2a, r_ex2b, r_ex3a, r_ex3b, r_ex3c, r_nc, r_keepE, Nat.zero_add, Nat.add_zero, Nat.mul_one, Int.toNat_natCast, toNat_sub1, toNat_add1, decide_true, decide_false, Bool.not_true, Bool.not_false, if_true, if_false, Bool.false_eq_true, reduceCtorEq, hneg]
    exact hk' _ _ ⟨rfl, kr2⟩
  | some s' =>
    have hs' := put_lt hset htm hW.1 hs hpm
    have ha : addW l W H p s t = Wq l W H (W * H - (p + 1)) s' := by rw [addW, hpm]
    rw [ha] at hk'
    have hpos : (0 : Int) ≤ (s' : Int) := by omega
    have S2 := S.later kr2
    obtain ⟨u, hu⟩ : ∃ u, vs[p + 1]? = some u := ⟨_, List.getElem?_eq_getElem (by omega)⟩
    obtain ⟨hI, _⟩ := S2.rows (p + 1) u (Nat.le_refl _) hu
    obtain ⟨ob, oo, oc, eo, _, hco⟩ := (S2.out.rd vE_len).at hu
    have co : w2.cell? ⟨ob, oo + (p + 1), none⟩ = some u := by
      have := hco 0 _ rfl
      simpa using this
    obtain ⟨g', cap', eu, _, hcl, _, _⟩ := IntsAt.put hI (q := s') (by rw [wayL_len]; exact hs') 0
    rw [wayL_at hs'] at hcl
    have hwl := wayL_len l W H (p + 1)
    have hpp : ((p : Int) + 1).toNat = p + 1 := by omega
    have hss : (s' : Int).toNat = s' := by omega
    rw [eu] at co
    have hs'' : s' < allS l W := hs'
    have hcap : 0 ≤ capI (tot (addW l W H p s) (l.take i)) ∧ capI (tot (addW l W H p s) (l.take i)) ≤ 1099511627777 := by unfold capI; omega
    have hcap2 : 0 ≤ capI (Wq l W H (W * H - (p + 1)) s') ∧ capI (Wq l W H (W * H - (p + 1)) s') ≤ 1099511627777 := by unfold capI; omega
    rw [eo]
    simp (disch := omega) only [putV, r_ln, r_pick, r_pickT, r_pickF, r_condT, r_condF, r_gdTT, r_gdFF, r_gdTF, r_gdFT, r_gqTT, r_gqFF, r_gqTF, r_gqFT, r_not, r_lss, r_leq, r_gtr, r_geq, r_eql, r_neq, r_add, r_sub, r_min2, r_max2, r_min3, r_max3, r_fa, r_iaS, r_iaA, r_ex2a, r_ex2b, r_ex3a, r_ex3b, r_ex3c, r_nc, r_keepE, Nat.zero_add, Nat.add_zero, Nat.mul_one, Int.toNat_natCast, toNat_sub1, toNat_add1, decide_true, decide_false, Bool.not_true, Bool.not_false, if_true, if_false, Bool.false_eq_true, reduceCtorEq, decide_eq_true hpos, hpp, r_ld co, hss, r_ld hcl]
    refine r_use fok88 (cappedI_calls _ w2) rfl ?_
    rintro _ _ ⟨rfl, rfl⟩
    refine ⟨_, rfl, ?_⟩
    rw [capI_add]
    exact hk' _ _ ⟨rfl, kr2⟩

end Go.Proofs.Ytgalbokmgffhkaa
