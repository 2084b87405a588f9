/- Contracts: Lines, index, power, put of the specification. -/
import Derived.Test.YtgalbokmgffhkaaJ2
import Derived.Test.YtgalbokmgffhkaaRu
import Derived.Test.YtgalbokmgffhkaaD10
import Derived.Test.YtgalbokmgffhkaaSj
set_option linter.all false
namespace Go.Proofs.Ytgalbokmgffhkaa
open Go.Lf Go.RowKit Go.Wg

set_option maxRecDepth 100000 in
theorem power_calls {n k : Nat} (w : World) (hb : n ^ k ≤ 1000000) (hn : 0 < n) (hk : k ≤ 1000) : Calls Try.prog 69 #[.int .i64 n, .int .i64 k] w fun e w' => e = .returned (.int .i64 (n ^ k : Nat)) ∧ w = w' := by
  refine lift69 ?_
  unfold S69 S69L0
  refine ⟨fun t5 t6 wr => ∃ i : Nat, i ≤ k ∧ t6 = .int .i64 i ∧ t5 = .int .i64 (n ^ i : Nat) ∧ w = wr, fun _ t6 _ => k - (intOf t6).toNat, ⟨0, by omega, rfl, by simp, rfl⟩, ?_⟩
  rintro _ _ _ _ ⟨i, hi, rfl, rfl, rfl⟩
  by_cases hlt : i < k
  case neg =>
    have hlt' : ¬ (i : Int) < (k : Int) := by omega
    have : i = k := by omega
    subst this
    simp (disch := omega) only [r_ln, r_pick, r_pickT, r_pickF, r_condT, r_condF, r_gdTT, r_gdFF, r_gdTF, r_gdFT, r_gqTT, r_gqFF, r_gqTF, r_gqFT, r_not, r_lss, r_leq, r_gtr, r_geq, r_eql, r_neq, r_add, r_sub, r_min2, r_max2, r_min3, r_max3, r_fa, r_iaS, r_iaA, r_ex2a, r_ex2b, r_ex3a, r_ex3b, r_ex3c, r_nc, r_keepE, Nat.zero_add, Nat.add_zero, Nat.mul_one, Int.toNat_natCast, toNat_sub1, toNat_add1, decide_true, decide_false, Bool.not_true, Bool.not_false, if_true, if_false, Bool.false_eq_true, reduceCtorEq, hlt']
    exact ⟨by first | rfl | trivial, by first | rfl | trivial⟩
  have hlt' : (i : Int) < (k : Int) := by omega
  have hle : n ^ (i + 1) ≤ n ^ k := Nat.pow_le_pow_right hn (by omega)
  rw [Nat.pow_succ] at hle
  simp (disch := omega) only [r_ln, r_pick, r_pickT, r_pickF, r_condT, r_condF, r_gdTT, r_gdFF, r_gdTF, r_gdFT, r_gqTT, r_gqFF, r_gqTF, r_gqFT, r_not, r_lss, r_leq, r_gtr, r_geq, r_eql, r_neq, r_add, r_sub, r_min2, r_max2, r_min3, r_max3, r_fa, r_iaS, r_iaA, r_ex2a, r_ex2b, r_ex3a, r_ex3b, r_ex3c, r_nc, r_keepE, Nat.zero_add, Nat.add_zero, Nat.mul_one, Int.toNat_natCast, toNat_sub1, toNat_add1, decide_true, decide_false, Bool.not_true, Bool.not_false, if_true, if_false, Bool.false_eq_true, reduceCtorEq, decide_eq_true hlt']
  rw [r_mulN _ _ (by omega)]
  refine ⟨⟨i + 1, by omega, by go_num, by rw [Nat.pow_succ], by first | rfl | trivial⟩, by simp only [intOf]; omega⟩

set_option maxRecDepth 100000 in
theorem index107_calls {v : Value} {l : List Int} (x : Int) (w : World) (hr : RdInts w v l) : Calls Try.prog 107 #[v, .int .i64 x] w fun e w' => e = .returned (.int .i64 (idxI l x)) ∧ Kp w w' := by
  have hr' := hr
  obtain ⟨a, cap, rfl, hcap, _⟩ := hr.len
  refine lift107 ?_
  unfold S107 S107L0
  refine ⟨fun t8 wr => ∃ i : Nat, i ≤ l.length ∧ t8 = .int .i64 i ∧ x ∉ l.take i ∧ Kp w wr, fun t8 _ => l.length - (intOf t8).toNat, ⟨0, by omega, rfl, by simp, Kp.refl _⟩, ?_⟩
  rintro _ _ wr ⟨i, hi, rfl, hn, hkr⟩
  by_cases hlt : i < l.length
  case neg =>
    have hlt' : ¬ (i : Int) < (l.length : Int) := by omega
    simp (disch := omega) only [r_ln, r_pick, r_pickT, r_pickF, r_condT, r_condF, r_gdTT, r_gdFF, r_gdTF, r_gdFT, r_gqTT, r_gqFF, r_gqTF, r_gqFT, r_not, r_lss, r_leq, r_gtr, r_geq, r_eql, r_neq, r_add, r_sub, r_min2, r_max2, r_min3, r_max3, r_fa, r_iaS, r_iaA, r_ex2a, r_ex2b, r_ex3a, r_ex3b, r_ex3c, r_nc, r_keepE, Nat.zero_add, Nat.add_zero, Nat.mul_one, Int.toNat_natCast, toNat_sub1, toNat_add1, decide_true, decide_false, Bool.not_true, Bool.not_false, if_true, if_false, Bool.false_eq_true, reduceCtorEq, hlt']
    rw [List.take_of_length_le (by omega)] at hn
    exact ⟨by rw [idxI, if_neg hn], hkr⟩
  have hlt' : (i : Int) < (l.length : Int) := by omega
  obtain ⟨b1, o1, _, e1, hc⟩ := (hr'.below hkr).at hlt
  cases e1
  rw [getD_lt _ _ _ hlt] at hc
  have hii : (i : Int).toNat = i := by omega
  have hx : l[i]? = some l[i] := List.getElem?_eq_getElem hlt
  by_cases he : l[i] = x
  · simp (disch := omega) only [r_ln, r_pick, r_pickT, r_pickF, r_condT, r_condF, r_gdTT, r_gdFF, r_gdTF, r_gdFT, r_gqTT, r_gqFF, r_gqTF, r_gqFT, r_not, r_lss, r_leq, r_gtr, r_geq, r_eql, r_neq, r_add, r_sub, r_min2, r_max2, r_min3, r_max3, r_fa, r_iaS, r_iaA, r_ex2a, r_ex2b, r_ex3a, r_ex3b, r_ex3c, r_nc, r_keepE, Nat.zero_add, Nat.add_zero, Nat.mul_one, Int.toNat_natCast, toNat_sub1, toNat_add1, decide_true, decide_false, Bool.not_true, Bool.not_false, if_true, if_false, Bool.false_eq_true, reduceCtorEq, decide_eq_true hlt', hii, r_ld hc, decide_eq_true he]
    rw [he] at hx
    exact ⟨by rw [idx_first hx hn], hkr⟩
  · simp (disch := omega) only [r_ln, r_pick, r_pickT, r_pickF, r_condT, r_condF, r_gdTT, r_gdFF, r_gdTF, r_gdFT, r_gqTT, r_gqFF, r_gqTF, r_gqFT, r_not, r_lss, r_leq, r_gtr, r_geq, r_eql, r_neq, r_add, r_sub, r_min2, r_max2, r_min3, r_max3, r_fa, r_iaS, r_iaA, r_ex2a, r_ex2b, r_ex3a, r_ex3b, r_ex3c, r_nc, r_keepE, Nat.zero_add, Nat.add_zero, Nat.mul_one, Int.toNat_natCast, toNat_sub1, toNat_add1, decide_true, decide_false, Bool.not_true, Bool.not_false, if_true, if_false, Bool.false_eq_true, reduceCtorEq, decide_eq_true hlt', hii, r_ld hc, he]
    refine ⟨⟨i + 1, by omega, by go_num, ?_, hkr⟩, by simp only [intOf]; omega⟩
    intro hm
    rw [take_succ' _ _ hlt] at hm
    rcases List.mem_append.1 hm with h | h
    · exact hn h
    · exact he (by simp at h; exact h.symm)

theorem lineB_take {l : List Tile} {c i : Nat} (hi : i < l.length) : lineB (l.take (i + 1)) c = (lineB (l.take i) c || (decide (tN l[i] = (c : Int)) || decide (tS l[i] = (c : Int)))) := by
  unfold lineB
  rw [take_succ' _ _ hi, List.any_append]
  simp

set_option maxRecDepth 100000 in
theorem r70_1 {w0 w : World} {sv t3 : Value} {l : List Tile} {c : Nat} {P : List Int} {next : Value → Value → World → Prop} (hr : RdT w0 sv l) (hl : l.length ≤ 1000) (hP : IntsAt w0.heap.size w t3 P) (hPl : P.length ≤ 100) (hc : c ≤ 100) (hk : Kp w0 w)
    (hn : ∀ v w', IntsAt w0.heap.size w' v (P ++ if lineB l c = true then [(c : Int)] else []) → Kp w0 w' → next v (.int .i64 ((c : Int) + 1)) w') : S70L1 sv t3 (.int .i64 c) next w := by
  obtain ⟨sa, sc, es, _⟩ := hr.len
  have lns : ∀ K : Value → Prop, ln1 sv K = K (.int .i64 l.length) := fun K => by rw [es]; rfl
  unfold S70L1
  refine ⟨fun t5 t6 wr => ∃ i : Nat, i ≤ l.length ∧ t6 = .int .i64 i ∧ t5 = .bool (lineB (l.take i) c) ∧ Kp w wr, fun _ t6 _ => l.length - (intOf t6).toNat, ⟨0, by omega, rfl, rfl, Kp.refl _⟩, ?_⟩
  rintro _ _ _ wr ⟨i, hi, rfl, rfl, kr⟩
  have hk0 := hk
  have hk := Kp.trans hk0 kr
  have hP := hP.kp kr
  rw [lns]
  by_cases hlt : i < l.length
  case pos =>
    have hlt' : (i : Int) < (l.length : Int) := by omega
    obtain ⟨b, off, cap, e, _, hcell⟩ := (hr.kp hk).at (List.getElem?_eq_getElem hlt)
    have hii : (i : Int).toNat = i := by omega
    have ia : ∀ K : Value → Prop, iaS 4 sv (.int .i64 i) K = K (.pointer (some ⟨b, off + i * 4, none⟩)) := fun K => by rw [e, r_iaS _ _ _ _ _ _ _ (by omega) (by omega), hii]
    have htk := lineB_take (c := c) hlt
    generalize l[i] = t at *
    have c0 : wr.cell? ⟨b, off + i * 4, none⟩ = some (.int .i64 (tN t)) := hcell 0 _ rfl
    have c2 : wr.cell? ⟨b, off + i * 4 + 2, none⟩ = some (.int .i64 (tS t)) := hcell 2 _ rfl
    have go : ∀ b : Bool, b = lineB (l.take (i + 1)) c → (∃ j : Nat, j ≤ l.length ∧ Value.int .i64 ((i : Int) + 1) = .int .i64 j ∧ Value.bool b = .bool (lineB (l.take j) c) ∧ Kp w wr) ∧ l.length - (intOf (.int .i64 ((i : Int) + 1))).toNat < l.length - (intOf (.int .i64 (i : Int))).toNat := fun b hb => ⟨⟨i + 1, by omega, by go_num, by rw [hb], kr⟩, by simp only [intOf]; omega⟩
    cases hB : lineB (l.take i) c with
    | true =>
      simp (disch := omega) only [r_ln, r_pick, r_pickT, r_pickF, r_condT, r_condF, r_gdTT, r_gdFF, r_gdTF, r_gdFT, r_gqTT, r_gqFF, r_gqTF, r_gqFT, r_not, r_lss, r_leq, r_gtr, r_geq, r_eql, r_neq, r_add, r_sub, r_min2, r_max2, r_min3, r_max3, r_fa, r_iaS, r_iaA, r_ex2a, r_ex2b, r_ex3a, r_ex3b, r_ex3c, r_nc, r_keepE, Nat.zero_add, Nat.add_zero, Nat.mul_one, Int.toNat_natCast, toNat_sub1, toNat_add1, decide_true, decide_false, Bool.not_true, Bool.not_false, if_true, if_false, Bool.false_eq_true, reduceCtorEq, decide_eq_true hlt', r_gdU]
      exact go true (by rw [htk, hB]; rfl)
    | false =>
      by_cases g1 : tN t = (c : Int)
      · simp (disch := omega) only [r_ln, r_pick, r_pickT, r_pickF, r_condT, r_condF, r_gdTT, r_gdFF, r_gdTF, r_gdFT, r_gqTT, r_gqFF, r_gqTF, r_gqFT, r_not, r_lss, r_leq, r_gtr, r_geq, r_eql, r_neq, r_add, r_sub, r_min2, r_max2, r_min3, r_max3, r_fa, r_iaS, r_iaA, r_ex2a, r_ex2b, r_ex3a, r_ex3b, r_ex3c, r_nc, r_keepE, Nat.zero_add, Nat.add_zero, Nat.mul_one, Int.toNat_natCast, toNat_sub1, toNat_add1, decide_true, decide_false, Bool.not_true, Bool.not_false, if_true, if_false, Bool.false_eq_true, reduceCtorEq, decide_eq_true hlt', r_gdU, ia, r_ld c0, decide_eq_true g1]
        exact go true (by rw [htk, decide_eq_true g1, Bool.true_or, Bool.or_true])
      by_cases g2 : tS t = (c : Int)
      · simp (disch := omega) only [r_ln, r_pick, r_pickT, r_pickF, r_condT, r_condF, r_gdTT, r_gdFF, r_gdTF, r_gdFT, r_gqTT, r_gqFF, r_gqTF, r_gqFT, r_not, r_lss, r_leq, r_gtr, r_geq, r_eql, r_neq, r_add, r_sub, r_min2, r_max2, r_min3, r_max3, r_fa, r_iaS, r_iaA, r_ex2a, r_ex2b, r_ex3a, r_ex3b, r_ex3c, r_nc, r_keepE, Nat.zero_add, Nat.add_zero, Nat.mul_one, Int.toNat_natCast, toNat_sub1, toNat_add1, decide_true, decide_false, Bool.not_true, Bool.not_false, if_true, if_false, Bool.false_eq_true, reduceCtorEq, decide_eq_true hlt', r_gdU, ia, r_ld c0, g1, r_ld c2, decide_eq_true g2]
        exact go true (by rw [htk, decide_eq_true g2, Bool.or_true, Bool.or_true])
      · simp (disch := omega) only [r_ln, r_pick, r_pickT, r_pickF, r_condT, r_condF, r_gdTT, r_gdFF, r_gdTF, r_gdFT, r_gqTT, r_gqFF, r_gqTF, r_gqFT, r_not, r_lss, r_leq, r_gtr, r_geq, r_eql, r_neq, r_add, r_sub, r_min2, r_max2, r_min3, r_max3, r_fa, r_iaS, r_iaA, r_ex2a, r_ex2b, r_ex3a, r_ex3b, r_ex3c, r_nc, r_keepE, Nat.zero_add, Nat.add_zero, Nat.mul_one, Int.toNat_natCast, toNat_sub1, toNat_add1, decide_true, decide_false, Bool.not_true, Bool.not_false, if_true, if_false, Bool.false_eq_true, reduceCtorEq, decide_eq_true hlt', r_gdU, ia, r_ld c0, g1, r_ld c2, g2]
        exact go false (by rw [htk, decide_eq_false g1, decide_eq_false g2, hB]; rfl)
  have hlt' : ¬ (i : Int) < (l.length : Int) := by omega
  rw [List.take_of_length_le (by omega)]
  simp (disch := omega) only [r_lss, hlt', decide_false, r_condF]
  refine r_join1 (fun v w' => IntsAt w0.heap.size w' v (P ++ if lineB l c = true then [(c : Int)] else []) ∧ Kp w0 w') ?_ fun k' hk' => ?_
  · rintro v w' ⟨ho, kk⟩
    rw [r_add _ _ (by omega) (by omega)]
    exact hn v w' ho kk
  cases hB : lineB l c with
  | false =>
    rw [hB] at hk'
    simp only [r_condF]
    exact hk' _ _ ⟨by simpa using hP, hk⟩
  | true =>
    rw [hB] at hk'
    simp only [r_condT]
    refine r_pushRec (x := (c : Int)) slt30 iC_len rfl (bs30 _ _ _) (by intro u hu; simp [iC] at hu; rw [hu]; rfl) (by omega) hP (by omega) hk.size fun v w' ho hch _ => ?_
    exact hk' _ _ ⟨by simpa using ho, Kp.of_chg hk hch fun k e => (hP.lt e).1⟩

set_option maxRecDepth 100000 in
theorem lines_calls {sv : Value} {l : List Tile} (w : World) (hr : RdT w sv l) (hl : l.length ≤ 1000) : Calls Try.prog 70 #[sv] w fun e w' => ∃ v, e = .returned v ∧ IntsAt w.heap.size w' v (lineL l) ∧ Kp w w' := by
  refine lift70 ?_
  unfold S70 S70L0
  refine ⟨fun t3 t4 wr => ∃ c : Nat, c ≤ 8 ∧ t4 = .int .i64 c ∧ IntsAt w.heap.size wr t3 (((List.range c).filter (lineB l)).map fun c : Nat => (c : Int)) ∧ Kp w wr, fun _ t4 _ => 8 - (intOf t4).toNat, ⟨0, by omega, rfl, RecAt.nil, Kp.refl _⟩, ?_⟩
  rintro _ t3 _ wr ⟨c, hc, rfl, hP, kr⟩
  by_cases hlt : c < 8
  case neg =>
    have hlt' : ¬ (c : Int) ≤ 7 := by omega
    have ec : c = 8 := by omega
    subst ec
    simp (disch := omega) only [r_ln, r_pick, r_pickT, r_pickF, r_condT, r_condF, r_gdTT, r_gdFF, r_gdTF, r_gdFT, r_gqTT, r_gqFF, r_gqTF, r_gqFT, r_not, r_lss, r_leq, r_gtr, r_geq, r_eql, r_neq, r_add, r_sub, r_min2, r_max2, r_min3, r_max3, r_fa, r_iaS, r_iaA, r_ex2a, r_ex2b, r_ex3a, r_ex3b, r_ex3c, r_nc, r_keepE, Nat.zero_add, Nat.add_zero, Nat.mul_one, Int.toNat_natCast, toNat_sub1, toNat_add1, decide_true, decide_false, Bool.not_true, Bool.not_false, if_true, if_false, Bool.false_eq_true, reduceCtorEq, hlt']
    exact ⟨_, rfl, hP, kr⟩
  have hlt' : (c : Int) ≤ 7 := by omega
  simp (disch := omega) only [r_ln, r_pick, r_pickT, r_pickF, r_condT, r_condF, r_gdTT, r_gdFF, r_gdTF, r_gdFT, r_gqTT, r_gqFF, r_gqTF, r_gqFT, r_not, r_lss, r_leq, r_gtr, r_geq, r_eql, r_neq, r_add, r_sub, r_min2, r_max2, r_min3, r_max3, r_fa, r_iaS, r_iaA, r_ex2a, r_ex2b, r_ex3a, r_ex3b, r_ex3c, r_nc, r_keepE, Nat.zero_add, Nat.add_zero, Nat.mul_one, Int.toNat_natCast, toNat_sub1, toNat_add1, decide_true, decide_false, Bool.not_true, Bool.not_false, if_true, if_false, Bool.false_eq_true, reduceCtorEq, decide_eq_true hlt']
  have hPl : (((List.range c).filter (lineB l)).map fun c : Nat => (c : Int)).length ≤ c := by
    rw [List.length_map]
    have := List.length_filter_le (lineB l) (List.range c)
    simpa using this
  refine r70_1 hr hl hP (by omega) (by omega) kr fun v w' ho kk => ?_
  refine ⟨⟨c + 1, by omega, by go_num, ?_, kk⟩, by simp only [intOf]; omega⟩
  rw [List.range_succ, List.filter_append, List.map_append]
  by_cases h : lineB l c = true
  · rw [if_pos h] at ho
    simpa [h] using ho
  · rw [if_neg h] at ho
    simpa [h] using ho

def putV (o : Option Nat) : Int := match o with
  | none => -1
  | some s => (s : Int)

end Go.Proofs.Ytgalbokmgffhkaa
