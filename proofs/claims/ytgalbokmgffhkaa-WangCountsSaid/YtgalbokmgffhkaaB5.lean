/- Contracts: colours, Contains at booleans, SortFunc of one list. -/
import Derived.Test.YtgalbokmgffhkaaB4
import Derived.Test.YtgalbokmgffhkaaSd
set_option linter.all false
namespace Go.Proofs.Ytgalbokmgffhkaa
open Go.Lf Go.RowKit Go.Wg

/-- The colours that a number is made of. -/
def colsL : Nat → Int → List Int
  | 0, _ => []
  | a + 1, c => colsL a (c / 8) ++ [c % 8]
theorem colsL_len : ∀ (a : Nat) (c : Int), (colsL a c).length = a
  | 0, _ => rfl
  | a + 1, c => by rw [colsL, List.length_append, colsL_len a]; rfl

set_option maxRecDepth 100000 in
theorem colours_calls {a : Nat} {c : Int} (w : World) (ha : a ≤ 4) (h0 : 0 ≤ c) (h1 : c ≤ 4096) : Calls Try.prog 83 #[.int .i64 c, .int .i64 a] w fun e w' => ∃ v, e = .returned v ∧ Kp w w' ∧ IntsAt w.heap.size w' v (colsL a c) := by
  refine lift83 ?_
  unfold S83
  refine mk30' (by omega) fun v w1 hv k1 hvb => ?_
  simp (disch := omega) only [r_ln, r_pick, r_pickT, r_pickF, r_condT, r_condF, r_gdTT, r_gdFF, r_gdTF, r_gdFT, r_gqTT, r_gqFF, r_gqTF, r_gqFT, r_not, r_lss, r_leq, r_gtr, r_geq, r_eql, r_neq, r_add, r_sub, r_min2, r_max2, r_min3, r_max3, r_fa, r_iaS, r_iaA, r_ex2a, r_ex2b, r_ex3a, r_ex3b, r_ex3c, r_nc, r_keepE, Nat.zero_add, Nat.add_zero, Nat.mul_one, Int.toNat_natCast, toNat_sub1, toNat_add1, decide_true, decide_false, Bool.not_true, Bool.not_false, if_true, if_false, Bool.false_eq_true, reduceCtorEq]
  refine ⟨fun t0 t6 wr => ∃ (i : Nat) (d : Int) (suf : List Int), i ≤ a ∧ t6 = .int .i64 ((i : Int) - 1) ∧ t0 = .int .i64 d ∧ 0 ≤ d ∧ d ≤ 4096 ∧ colsL a c = colsL i d ++ suf ∧ IntsAt w.heap.size wr v (List.replicate i 0 ++ suf) ∧ Kp w wr, fun _ t6 _ => (intOf t6 + 1).toNat,
    ⟨a, c, [], by omega, rfl, rfl, h0, h1, by simp, by simpa using hv, k1⟩, ?_⟩
  rintro _ _ _ wr ⟨i, d, suf, hi, rfl, rfl, hd0, hd1, hc, hr, hk⟩
  by_cases hlt : 0 < i
  case neg =>
    have : i = 0 := by omega
    subst this
    have hlt' : ¬ (0 : Int) ≤ ((0 : Nat) : Int) - 1 := by omega
    simp (disch := omega) only [r_ln, r_pick, r_pickT, r_pickF, r_condT, r_condF, r_gdTT, r_gdFF, r_gdTF, r_gdFT, r_gqTT, r_gqFF, r_gqTF, r_gqFT, r_not, r_lss, r_leq, r_gtr, r_geq, r_eql, r_neq, r_add, r_sub, r_min2, r_max2, r_min3, r_max3, r_fa, r_iaS, r_iaA, r_ex2a, r_ex2b, r_ex3a, r_ex3b, r_ex3c, r_nc, r_keepE, Nat.zero_add, Nat.add_zero, Nat.mul_one, Int.toNat_natCast, toNat_sub1, toNat_add1, decide_true, decide_false, Bool.not_true, Bool.not_false, if_true, if_false, Bool.false_eq_true, reduceCtorEq, hlt']
    refine ⟨_, rfl, hk, ?_⟩
    rw [hc]
    simpa [colsL] using hr
  have hlt' : (0 : Int) ≤ (i : Int) - 1 := by omega
  obtain ⟨j, rfl⟩ : ∃ j, i = j + 1 := ⟨i - 1, by omega⟩
  have e1 : ((j + 1 : Nat) : Int) - 1 = (j : Int) := by omega
  rw [e1] at hlt' ⊢
  have hsl : (List.replicate (j + 1) (0 : Int) ++ suf).length = a := by
    have := congrArg List.length hc
    rw [List.length_append, colsL_len, colsL_len] at this
    rw [List.length_append, List.length_replicate]
    omega
  obtain ⟨g, cap, ev, hgb, gc, gf, gset⟩ := IntsAt.put hr (q := j) (by omega) (d % 8)
  subst ev
  rw [hsl]
  simp (disch := omega) only [r_ln, r_pick, r_pickT, r_pickF, r_condT, r_condF, r_gdTT, r_gdFF, r_gdTF, r_gdFT, r_gqTT, r_gqFF, r_gqTF, r_gqFT, r_not, r_lss, r_leq, r_gtr, r_geq, r_eql, r_neq, r_add, r_sub, r_min2, r_max2, r_min3, r_max3, r_fa, r_iaS, r_iaA, r_ex2a, r_ex2b, r_ex3a, r_ex3b, r_ex3c, r_nc, r_keepE, Nat.zero_add, Nat.add_zero, Nat.mul_one, Int.toNat_natCast, toNat_sub1, toNat_add1, decide_true, decide_false, Bool.not_true, Bool.not_false, if_true, if_false, Bool.false_eq_true, reduceCtorEq, decide_eq_true hlt', r_rem]
  rw [st3 gc gf]
  simp (disch := omega) only [r_ln, r_pick, r_pickT, r_pickF, r_condT, r_condF, r_gdTT, r_gdFF, r_gdTF, r_gdFT, r_gqTT, r_gqFF, r_gqTF, r_gqFT, r_not, r_lss, r_leq, r_gtr, r_geq, r_eql, r_neq, r_add, r_sub, r_min2, r_max2, r_min3, r_max3, r_fa, r_iaS, r_iaA, r_ex2a, r_ex2b, r_ex3a, r_ex3b, r_ex3c, r_nc, r_keepE, Nat.zero_add, Nat.add_zero, Nat.mul_one, Int.toNat_natCast, toNat_sub1, toNat_add1, decide_true, decide_false, Bool.not_true, Bool.not_false, if_true, if_false, Bool.false_eq_true, reduceCtorEq, r_quo]
  refine ⟨⟨j, d / 8, d % 8 :: suf, by omega, by go_num, rfl, by omega, by omega, by rw [hc, colsL]; simp, ?_, Kp.of_chg hk (Chg.setCell (S := fun k => k = g) _ _ rfl) fun k e => by omega⟩, by simp only [intOf]; omega⟩
  have e2 : (List.replicate (j + 1) (0 : Int) ++ suf).set j (d % 8) = List.replicate j 0 ++ d % 8 :: suf := by
    rw [List.replicate_succ', List.append_assoc, List.set_append_right _ _ (by simp)]
    simp
  rw [e2, hsl] at gset
  exact gset

theorem eqBl (x y : Bool) (w : World) (K : Value → Prop) : binQ Try.prog w .eql 4 false (.bool x) (.bool y) K = genQ Try.prog w (semBin .eql 4 false (.bool x) (.bool y)) K := by kernel_rfl
theorem r_eqlB {x y : Bool} {w : World} {K : Value → Prop} (h : K (.bool (x == y))) : binQ Try.prog w .eql 4 false (.bool x) (.bool y) K := by
  rw [eqBl]
  refine ⟨.bool (x == y), fun _ _ => ?_, h⟩
  cases x <;> cases y <;> kernel_rfl

set_option maxRecDepth 100000 in
/-- slices.Contains of true. -/
theorem containsB_calls {v : Value} {l : List Bool} (w : World) (hr : Rd 1 bC w v l) (hl : l.length ≤ 1000000) : Calls Try.prog 81 #[v, .bool true] w fun e w' => e = .returned (.bool (l.any id)) ∧ Kp w w' := by
  have hidx : Calls Try.prog 108 #[v, .bool true] w fun e w' => ∃ n : Int, e = .returned (.int .i64 n) ∧ decide (0 ≤ n) = l.any id ∧ Kp w w' := by
    obtain ⟨a, cap, rfl, hcap⟩ := hr.len
    refine lift108 ?_
    unfold S108
    simp only [r_ln, r_pick, r_pickT, r_pickF, r_condT, r_condF, r_gdTT, r_gdFF, r_gdTF, r_gdFT, r_gqTT, r_gqFF, r_gqTF, r_gqFT, r_not, r_lss, r_leq, r_gtr, r_geq, r_eql, r_neq, r_add, r_sub, r_min2, r_max2, r_min3, r_max3, r_fa, r_iaS, r_iaA, r_ex2a, r_ex2b, r_ex3a, r_ex3b, r_ex3c, r_nc, r_keepE, Nat.zero_add, Nat.add_zero, Nat.mul_one, Int.toNat_natCast, toNat_sub1, toNat_add1, decide_true, decide_false, Bool.not_true, Bool.not_false, if_true, if_false, Bool.false_eq_true, reduceCtorEq]
    refine ⟨fun t8 wr => ∃ i : Nat, i ≤ l.length ∧ t8 = .int .i64 i ∧ (l.take i).any id = false ∧ Kp w wr, fun t8 _ => l.length - (intOf t8).toNat, ⟨0, by omega, rfl, by simp, Kp.refl _⟩, ?_⟩
    rintro _ _ wr ⟨i, hi, rfl, hn, hk⟩
    by_cases hlt : i < l.length
    case neg =>
      have hlt' : ¬ (i : Int) < (l.length : Int) := by omega
      rw [List.take_of_length_le (by omega)] at hn
      simp (disch := omega) only [r_ln, r_pick, r_pickT, r_pickF, r_condT, r_condF, r_gdTT, r_gdFF, r_gdTF, r_gdFT, r_gqTT, r_gqFF, r_gqTF, r_gqFT, r_not, r_lss, r_leq, r_gtr, r_geq, r_eql, r_neq, r_add, r_sub, r_min2, r_max2, r_min3, r_max3, r_fa, r_iaS, r_iaA, r_ex2a, r_ex2b, r_ex3a, r_ex3b, r_ex3c, r_nc, r_keepE, Nat.zero_add, Nat.add_zero, Nat.mul_one, Int.toNat_natCast, toNat_sub1, toNat_add1, decide_true, decide_false, Bool.not_true, Bool.not_false, if_true, if_false, Bool.false_eq_true, reduceCtorEq, hlt']
      exact ⟨-1, rfl, by rw [hn]; decide, hk⟩
    have hlt' : (i : Int) < (l.length : Int) := by omega
    obtain ⟨b, off, _, e, _, hc⟩ := (hr.kp hk).at (i := i) (x := l.getD i false) (by rw [List.getElem?_eq_getElem hlt, getD_lt _ _ _ hlt])
    cases e
    have hc0 := hc 0 _ rfl
    simp only [Nat.mul_one, Nat.add_zero] at hc0
    simp (disch := omega) only [r_ln, r_pick, r_pickT, r_pickF, r_condT, r_condF, r_gdTT, r_gdFF, r_gdTF, r_gdFT, r_gqTT, r_gqFF, r_gqTF, r_gqFT, r_not, r_lss, r_leq, r_gtr, r_geq, r_eql, r_neq, r_add, r_sub, r_min2, r_max2, r_min3, r_max3, r_fa, r_iaS, r_iaA, r_ex2a, r_ex2b, r_ex3a, r_ex3b, r_ex3c, r_nc, r_keepE, Nat.zero_add, Nat.add_zero, Nat.mul_one, Int.toNat_natCast, toNat_sub1, toNat_add1, decide_true, decide_false, Bool.not_true, Bool.not_false, if_true, if_false, Bool.false_eq_true, reduceCtorEq, decide_eq_true hlt', r_ld hc0]
    refine r_eqlB ?_
    have htk : l.take (i + 1) = l.take i ++ [l.getD i false] := by rw [take_succ' _ _ hlt, getD_lt _ _ _ hlt]
    cases hp : l.getD i false with
    | true =>
      simp (disch := omega) only [r_ln, r_pick, r_pickT, r_pickF, r_condT, r_condF, r_gdTT, r_gdFF, r_gdTF, r_gdFT, r_gqTT, r_gqFF, r_gqTF, r_gqFT, r_not, r_lss, r_leq, r_gtr, r_geq, r_eql, r_neq, r_add, r_sub, r_min2, r_max2, r_min3, r_max3, r_fa, r_iaS, r_iaA, r_ex2a, r_ex2b, r_ex3a, r_ex3b, r_ex3c, r_nc, r_keepE, Nat.zero_add, Nat.add_zero, Nat.mul_one, Int.toNat_natCast, toNat_sub1, toNat_add1, decide_true, decide_false, Bool.not_true, Bool.not_false, if_true, if_false, Bool.false_eq_true, reduceCtorEq, beq_self_eq_true]
      refine ⟨i, rfl, ?_, hk⟩
      have : l.any id = true := List.any_eq_true.2 ⟨true, by rw [← hp]; exact getD_mem hlt, rfl⟩
      rw [this]
      exact decide_eq_true (by omega)
    | false =>
      have e : (true == false) = false := rfl
      simp (disch := omega) only [r_ln, r_pick, r_pickT, r_pickF, r_condT, r_condF, r_gdTT, r_gdFF, r_gdTF, r_gdFT, r_gqTT, r_gqFF, r_gqTF, r_gqFT, r_not, r_lss, r_leq, r_gtr, r_geq, r_eql, r_neq, r_add, r_sub, r_min2, r_max2, r_min3, r_max3, r_fa, r_iaS, r_iaA, r_ex2a, r_ex2b, r_ex3a, r_ex3b, r_ex3c, r_nc, r_keepE, Nat.zero_add, Nat.add_zero, Nat.mul_one, Int.toNat_natCast, toNat_sub1, toNat_add1, decide_true, decide_false, Bool.not_true, Bool.not_false, if_true, if_false, Bool.false_eq_true, reduceCtorEq, e]
      exact ⟨⟨i + 1, by omega, by go_num, by rw [htk, List.any_append, hn, hp]; rfl, hk⟩, by simp only [intOf]; omega⟩
  refine lift81 ?_
  unfold S81
  refine r_use fok108 hidx rfl ?_
  rintro _ w1 ⟨n, rfl, hn, k1⟩
  refine ⟨_, rfl, ?_⟩
  simp only [r_ln, r_pick, r_pickT, r_pickF, r_condT, r_condF, r_gdTT, r_gdFF, r_gdTF, r_gdFT, r_gqTT, r_gqFF, r_gqTF, r_gqFT, r_not, r_lss, r_leq, r_gtr, r_geq, r_eql, r_neq, r_add, r_sub, r_min2, r_max2, r_min3, r_max3, r_fa, r_iaS, r_iaA, r_ex2a, r_ex2b, r_ex3a, r_ex3b, r_ex3c, r_nc, r_keepE, Nat.zero_add, Nat.add_zero, Nat.mul_one, Int.toNat_natCast, toNat_sub1, toNat_add1, decide_true, decide_false, Bool.not_true, Bool.not_false, if_true, if_false, Bool.false_eq_true, reduceCtorEq, hn]
  exact ⟨by first | rfl | trivial, k1⟩

end Go.Proofs.Ytgalbokmgffhkaa
