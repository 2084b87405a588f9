/- Contracts: less, stands, Rows, Firsts of the specification. -/
import Derived.Test.YtgalbokmgffhkaaE5
set_option linter.all false
namespace Go.Proofs.Ytgalbokmgffhkaa
open Go.Lf Go.RowKit Go.Wg

set_option maxRecDepth 100000 in
theorem less_calls {va vb : Value} {a b : List Int} (w : World) (ha : RdInts w va a) (hb : RdInts w vb b) (hab : a.length = b.length) : Calls Try.prog 61 #[va, vb] w fun e w' => e = .returned (.bool (decide (cmpL a b < 0))) ∧ Kp w w' := by
  obtain ⟨aa, ac, rfl, _, _⟩ := ha.len
  obtain ⟨ba, bc, rfl, _, _⟩ := hb.len
  refine lift61 ?_
  unfold S61 S61L0
  refine ⟨fun t5 wr => ∃ i : Nat, i ≤ a.length ∧ t5 = .int .i64 i ∧ cmpL a b = cmpL (a.drop i) (b.drop i) ∧ Kp w wr, fun t5 _ => a.length - (intOf t5).toNat, ⟨0, by omega, rfl, by simp, Kp.refl _⟩, ?_⟩
  rintro _ _ wr ⟨i, hi, rfl, hc, kr⟩
  by_cases hlt : i < a.length
  case neg =>
    have hlt' : ¬ (i : Int) < (a.length : Int) := by omega
    simp (disch := omega) only [r_ln, r_pick, r_pickT, r_pickF, r_condT, r_condF, r_gdTT, r_gdFF, r_gdTF, r_gdFT, r_gqTT, r_gqFF, r_gqTF, r_gqFT, r_not, r_lss, r_leq, r_gtr, r_geq, r_eql, r_neq, r_add, r_sub, r_min2, r_max2, r_min3, r_max3, r_fa, r_iaS, r_iaA, r_ex2a, r_ex2b, r_ex3a, r_ex3b, r_ex3c, r_nc, r_keepE, Nat.zero_add, Nat.add_zero, Nat.mul_one, Int.toNat_natCast, toNat_sub1, toNat_add1, decide_true, decide_false, Bool.not_true, Bool.not_false, if_true, if_false, Bool.false_eq_true, reduceCtorEq, hlt']
    refine ⟨ret_bool ?_, kr⟩
    rw [hc, List.drop_eq_nil_of_le (by omega), List.drop_eq_nil_of_le (by omega)]
    rfl
  have hlt' : (i : Int) < (a.length : Int) := by omega
  have hltb : i < b.length := by omega
  simp (disch := omega) only [r_ln, r_pick, r_pickT, r_pickF, r_condT, r_condF, r_gdTT, r_gdFF, r_gdTF, r_gdFT, r_gqTT, r_gqFF, r_gqTF, r_gqFT, r_not, r_lss, r_leq, r_gtr, r_geq, r_eql, r_neq, r_add, r_sub, r_min2, r_max2, r_min3, r_max3, r_fa, r_iaS, r_iaA, r_ex2a, r_ex2b, r_ex3a, r_ex3b, r_ex3c, r_nc, r_keepE, Nat.zero_add, Nat.add_zero, Nat.mul_one, Int.toNat_natCast, toNat_sub1, toNat_add1, decide_true, decide_false, Bool.not_true, Bool.not_false, if_true, if_false, Bool.false_eq_true, reduceCtorEq, decide_eq_true hlt']
  refine r_drew fun w2 k2 _ => ?_
  have k02 := Kp.trans kr k2
  obtain ⟨b1, o1, c1, e1, hc1⟩ := (ha.below k02).at hlt
  obtain ⟨b2, o2, c2, e2, hc2⟩ := (hb.below k02).at hltb
  cases e1
  cases e2
  have hi' : (i : Int).toNat = i := by omega
  have hst := cmpL_step hlt hltb
  rw [← hc] at hst
  by_cases hx : a.getD i 0 = b.getD i 0
  · simp (disch := omega) only [r_ln, r_pick, r_pickT, r_pickF, r_condT, r_condF, r_gdTT, r_gdFF, r_gdTF, r_gdFT, r_gqTT, r_gqFF, r_gqTF, r_gqFT, r_not, r_lss, r_leq, r_gtr, r_geq, r_eql, r_neq, r_add, r_sub, r_min2, r_max2, r_min3, r_max3, r_fa, r_iaS, r_iaA, r_ex2a, r_ex2b, r_ex3a, r_ex3b, r_ex3c, r_nc, r_keepE, Nat.zero_add, Nat.add_zero, Nat.mul_one, Int.toNat_natCast, toNat_sub1, toNat_add1, decide_true, decide_false, Bool.not_true, Bool.not_false, if_true, if_false, Bool.false_eq_true, reduceCtorEq, hi', r_ld hc1, r_ld hc2, decide_eq_true hx]
    have : cmp1 (a.getD i 0) (b.getD i 0) = 0 := by rw [hx]; simp [cmp1]
    rw [this, if_pos rfl] at hst
    exact ⟨⟨i + 1, by omega, by go_num, hst, k02⟩, by simp only [intOf]; omega⟩
  · simp (disch := omega) only [r_ln, r_pick, r_pickT, r_pickF, r_condT, r_condF, r_gdTT, r_gdFF, r_gdTF, r_gdFT, r_gqTT, r_gqFF, r_gqTF, r_gqFT, r_not, r_lss, r_leq, r_gtr, r_geq, r_eql, r_neq, r_add, r_sub, r_min2, r_max2, r_min3, r_max3, r_fa, r_iaS, r_iaA, r_ex2a, r_ex2b, r_ex3a, r_ex3b, r_ex3c, r_nc, r_keepE, Nat.zero_add, Nat.add_zero, Nat.mul_one, Int.toNat_natCast, toNat_sub1, toNat_add1, decide_true, decide_false, Bool.not_true, Bool.not_false, if_true, if_false, Bool.false_eq_true, reduceCtorEq, hi', r_ld hc1, r_ld hc2, hx]
    refine r_drew fun w3 k3 _ => ?_
    have d1 := cell_later k3 hc1
    have d2 := cell_later k3 hc2
    simp (disch := omega) only [r_ln, r_pick, r_pickT, r_pickF, r_condT, r_condF, r_gdTT, r_gdFF, r_gdTF, r_gdFT, r_gqTT, r_gqFF, r_gqTF, r_gqFT, r_not, r_lss, r_leq, r_gtr, r_geq, r_eql, r_neq, r_add, r_sub, r_min2, r_max2, r_min3, r_max3, r_fa, r_iaS, r_iaA, r_ex2a, r_ex2b, r_ex3a, r_ex3b, r_ex3c, r_nc, r_keepE, Nat.zero_add, Nat.add_zero, Nat.mul_one, Int.toNat_natCast, toNat_sub1, toNat_add1, decide_true, decide_false, Bool.not_true, Bool.not_false, if_true, if_false, Bool.false_eq_true, reduceCtorEq, hi', r_ld d1, r_ld d2]
    refine ⟨ret_bool ?_, Kp.trans k02 k3⟩
    rw [hst]
    unfold cmp1
    by_cases h1 : a.getD i 0 < b.getD i 0
    · rw [if_pos h1, decide_eq_true h1]; rfl
    · rw [if_neg h1, if_pos (show b.getD i 0 < a.getD i 0 by omega), decide_eq_false h1]; rfl

set_option maxRecDepth 100000 in
theorem stands_calls {pv sv : Value} {proof : List (List Int)} {s : List Int} {k : Int} (w : World) (hp : RdRows w pv proof) (hs : RdInts w sv s) (hrow : ∀ i, i < proof.length → (proof.getD i []).length = s.length + 1) :
    Calls Try.prog 63 #[pv, sv, .int .i64 k] w fun e w' => e = .returned (.bool (standsB proof s k)) ∧ Kp w w' := by
  obtain ⟨pa, pc, rfl, _⟩ := hp.len
  obtain ⟨sa, sc, rfl, hsl, _⟩ := hs.len
  refine lift63 ?_
  unfold S63 S63L0
  refine ⟨fun t7 wr => ∃ i : Nat, i ≤ proof.length ∧ t7 = .int .i64 i ∧ standsB (proof.take i) s k = false ∧ Kp w wr, fun t7 _ => proof.length - (intOf t7).toNat, ⟨0, by omega, rfl, rfl, Kp.refl _⟩, ?_⟩
  rintro _ _ wr ⟨i, hi, rfl, hno, kr⟩
  by_cases hlt : i < proof.length
  case neg =>
    have hlt' : ¬ (i : Int) < (proof.length : Int) := by omega
    rw [List.take_of_length_le (by omega)] at hno
    simp (disch := omega) only [r_ln, r_pick, r_pickT, r_pickF, r_condT, r_condF, r_gdTT, r_gdFF, r_gdTF, r_gdFT, r_gqTT, r_gqFF, r_gqTF, r_gqFT, r_not, r_lss, r_leq, r_gtr, r_geq, r_eql, r_neq, r_add, r_sub, r_min2, r_max2, r_min3, r_max3, r_fa, r_iaS, r_iaA, r_ex2a, r_ex2b, r_ex3a, r_ex3b, r_ex3c, r_nc, r_keepE, Nat.zero_add, Nat.add_zero, Nat.mul_one, Int.toNat_natCast, toNat_sub1, toNat_add1, decide_true, decide_false, Bool.not_true, Bool.not_false, if_true, if_false, Bool.false_eq_true, reduceCtorEq, hlt']
    exact ⟨ret_bool hno.symm, kr⟩
  have hlt' : (i : Int) < (proof.length : Int) := by omega
  have hpl := hrow i hlt
  obtain ⟨pb, po, _, rv, ep, hcell, hr⟩ := (hp.below kr).row hlt
  cases ep
  have hpr : proof[i] = proof.getD i [] := (getD_lt proof i [] hlt).symm
  have htk : standsB (proof.take (i + 1)) s k = (decide ((proof.getD i []).getD 0 0 < k) && decide ((proof.getD i []).drop 1 = s)) := by
    have hno' : ((proof.take i).any fun p => decide (p.getD 0 0 < k) && decide (p.drop 1 = s)) = false := hno
    rw [standsB, take_succ' _ _ hlt, List.any_append, hno', hpr]
    simp
  have hall : (decide ((proof.getD i []).getD 0 0 < k) && decide ((proof.getD i []).drop 1 = s)) = true → standsB proof s k = true := fun h => by
    rw [standsB, List.any_eq_true]
    exact ⟨proof.getD i [], getD_mem hlt, h⟩
  generalize proof.getD i [] = p at *
  obtain ⟨ra, rc, rfl, _, _⟩ := hr.len
  obtain ⟨rb, ro, _, er, hx0⟩ := hr.at (j := 0) (by omega)
  cases er
  rw [Nat.add_zero] at hx0
  have i0 : (0 : Int).toNat = 0 := rfl
  simp (disch := omega) only [r_ln, r_pick, r_pickT, r_pickF, r_condT, r_condF, r_gdTT, r_gdFF, r_gdTF, r_gdFT, r_gqTT, r_gqFF, r_gqTF, r_gqFT, r_not, r_lss, r_leq, r_gtr, r_geq, r_eql, r_neq, r_add, r_sub, r_min2, r_max2, r_min3, r_max3, r_fa, r_iaS, r_iaA, r_ex2a, r_ex2b, r_ex3a, r_ex3b, r_ex3c, r_nc, r_keepE, Nat.zero_add, Nat.add_zero, Nat.mul_one, Int.toNat_natCast, toNat_sub1, toNat_add1, decide_true, decide_false, Bool.not_true, Bool.not_false, if_true, if_false, Bool.false_eq_true, reduceCtorEq, decide_eq_true hlt', r_ld hcell, i0, Nat.zero_mul, r_ld hx0]
  unfold S63L1
  refine ⟨fun t8 t9 wq => ∃ x : Nat, x ≤ s.length ∧ t9 = .int .i64 x ∧ t8 = .bool (decide (p.getD 0 0 < k) && decide ((p.drop 1).take x = s.take x)) ∧ Kp wr wq, fun _ t9 _ => s.length - (intOf t9).toNat, ⟨0, by omega, rfl, by simp, Kp.refl _⟩, ?_⟩
  rintro _ _ _ wq ⟨x, hx, rfl, rfl, kq0⟩
  have kq := Kp.trans kr kq0
  have hdl : (p.drop 1).length = s.length := by rw [List.length_drop]; omega
  have no : (decide (p.getD 0 0 < k) && decide ((p.drop 1).take x = s.take x)) = false → standsB (proof.take (i + 1)) s k = false := fun h => by
    rw [htk]
    cases hh : decide (p.getD 0 0 < k) && decide (p.drop 1 = s) with
    | false => rfl
    | true =>
      simp only [Bool.and_eq_true, decide_eq_true_eq] at hh
      rw [hh.2, decide_eq_true hh.1, decide_eq_true rfl] at h
      cases h
  have goOn : standsB (proof.take (i + 1)) s k = false → (∃ i' : Nat, i' ≤ proof.length ∧ Value.int .i64 ((i : Int) + 1) = .int .i64 i' ∧ standsB (proof.take i') s k = false ∧ Kp w wq) ∧ proof.length - (intOf (.int .i64 ((i : Int) + 1))).toNat < proof.length - (intOf (.int .i64 (i : Int))).toNat := fun h =>
    ⟨⟨i + 1, by omega, by go_num, h, kq⟩, by simp only [intOf]; omega⟩
  by_cases hxl : x < s.length
  case neg =>
    have hxl' : ¬ (x : Int) < (s.length : Int) := by omega
    have hfull : (decide (p.getD 0 0 < k) && decide ((p.drop 1).take x = s.take x)) = (decide (p.getD 0 0 < k) && decide (p.drop 1 = s)) := by
      rw [List.take_of_length_le (by omega), List.take_of_length_le (by omega)]
    rw [hfull] at no ⊢
    cases hb : decide (p.getD 0 0 < k) && decide (p.drop 1 = s) with
    | false =>
      simp (disch := omega) only [r_ln, r_pick, r_pickT, r_pickF, r_condT, r_condF, r_gdTT, r_gdFF, r_gdTF, r_gdFT, r_gqTT, r_gqFF, r_gqTF, r_gqFT, r_not, r_lss, r_leq, r_gtr, r_geq, r_eql, r_neq, r_add, r_sub, r_min2, r_max2, r_min3, r_max3, r_fa, r_iaS, r_iaA, r_ex2a, r_ex2b, r_ex3a, r_ex3b, r_ex3c, r_nc, r_keepE, Nat.zero_add, Nat.add_zero, Nat.mul_one, Int.toNat_natCast, toNat_sub1, toNat_add1, decide_true, decide_false, Bool.not_true, Bool.not_false, if_true, if_false, Bool.false_eq_true, reduceCtorEq, hxl', r_gdU]
      exact goOn (no hb)
    | true =>
      simp (disch := omega) only [r_ln, r_pick, r_pickT, r_pickF, r_condT, r_condF, r_gdTT, r_gdFF, r_gdTF, r_gdFT, r_gqTT, r_gqFF, r_gqTF, r_gqFT, r_not, r_lss, r_leq, r_gtr, r_geq, r_eql, r_neq, r_add, r_sub, r_min2, r_max2, r_min3, r_max3, r_fa, r_iaS, r_iaA, r_ex2a, r_ex2b, r_ex3a, r_ex3b, r_ex3c, r_nc, r_keepE, Nat.zero_add, Nat.add_zero, Nat.mul_one, Int.toNat_natCast, toNat_sub1, toNat_add1, decide_true, decide_false, Bool.not_true, Bool.not_false, if_true, if_false, Bool.false_eq_true, reduceCtorEq, hxl', r_gdU]
      exact ⟨ret_bool (hall hb).symm, kq⟩
  have hxl' : (x : Int) < (s.length : Int) := by omega
  cases hb : decide (p.getD 0 0 < k) && decide ((p.drop 1).take x = s.take x) with
  | false =>
    simp (disch := omega) only [r_ln, r_pick, r_pickT, r_pickF, r_condT, r_condF, r_gdTT, r_gdFF, r_gdTF, r_gdFT, r_gqTT, r_gqFF, r_gqTF, r_gqFT, r_not, r_lss, r_leq, r_gtr, r_geq, r_eql, r_neq, r_add, r_sub, r_min2, r_max2, r_min3, r_max3, r_fa, r_iaS, r_iaA, r_ex2a, r_ex2b, r_ex3a, r_ex3b, r_ex3c, r_nc, r_keepE, Nat.zero_add, Nat.add_zero, Nat.mul_one, Int.toNat_natCast, toNat_sub1, toNat_add1, decide_true, decide_false, Bool.not_true, Bool.not_false, if_true, if_false, Bool.false_eq_true, reduceCtorEq, decide_eq_true hxl']
    exact goOn (no hb)
  | true =>
  simp (disch := omega) only [r_ln, r_pick, r_pickT, r_pickF, r_condT, r_condF, r_gdTT, r_gdFF, r_gdTF, r_gdFT, r_gqTT, r_gqFF, r_gqTF, r_gqFT, r_not, r_lss, r_leq, r_gtr, r_geq, r_eql, r_neq, r_add, r_sub, r_min2, r_max2, r_min3, r_max3, r_fa, r_iaS, r_iaA, r_ex2a, r_ex2b, r_ex3a, r_ex3b, r_ex3c, r_nc, r_keepE, Nat.zero_add, Nat.add_zero, Nat.mul_one, Int.toNat_natCast, toNat_sub1, toNat_add1, decide_true, decide_false, Bool.not_true, Bool.not_false, if_true, if_false, Bool.false_eq_true, reduceCtorEq, decide_eq_true hxl']
  refine r_drew fun w2 k2 _ => ?_
  have k02 := Kp.trans kq k2
  have kr2 := Kp.trans kq0 k2
  have hcell2 := cell_later kr2 hcell
  obtain ⟨_, _, _, er2, hx2⟩ := (hr.below kr2).at (j := x + 1) (by omega)
  cases er2
  obtain ⟨sb, so, _, es2, hs2⟩ := (hs.below k02).at hxl
  cases es2
  have i1 : ((x : Int) + 1).toNat = x + 1 := by omega
  have hxi : (x : Int).toNat = x := by omega
  have hii : (i : Int).toNat = i := by omega
  simp (disch := omega) only [r_ln, r_pick, r_pickT, r_pickF, r_condT, r_condF, r_gdTT, r_gdFF, r_gdTF, r_gdFT, r_gqTT, r_gqFF, r_gqTF, r_gqFT, r_not, r_lss, r_leq, r_gtr, r_geq, r_eql, r_neq, r_add, r_sub, r_min2, r_max2, r_min3, r_max3, r_fa, r_iaS, r_iaA, r_ex2a, r_ex2b, r_ex3a, r_ex3b, r_ex3c, r_nc, r_keepE, Nat.zero_add, Nat.add_zero, Nat.mul_one, Int.toNat_natCast, toNat_sub1, toNat_add1, decide_true, decide_false, Bool.not_true, Bool.not_false, if_true, if_false, Bool.false_eq_true, reduceCtorEq, hii, r_ld hcell2, i1, r_ld hx2, hxi, r_ld hs2]
  refine ⟨⟨x + 1, by omega, by go_num, ?_, kr2⟩, by simp only [intOf]; omega⟩
  congr 1
  simp only [Bool.and_eq_true, decide_eq_true_eq] at hb
  rw [decide_eq_true hb.1, Bool.true_and]
  have hxd : x < (p.drop 1).length := by omega
  have e1 : (p.drop 1)[x] = p.getD (x + 1) 0 := by
    rw [List.getElem_drop, getD_lt _ _ _ (by omega)]
    congr 1
    omega
  rw [take_succ' _ _ hxd, take_succ' _ _ hxl, hb.2, e1, ← getD_lt s x 0 hxl]
  by_cases h : p.getD (x + 1) 0 = s.getD x 0
  · rw [decide_eq_true h, h, decide_eq_true rfl]
  · rw [decide_eq_false h, decide_eq_false (fun e => h (by have := List.append_cancel_left e; simpa using this))]

def rowsOk (l : List Tile) (n : List Int) : Bool := setB l && sideB n.length && n.all colB
/-- What Rows returns. -/
def RowsPost (l : List Tile) (n : List Int) (base : Nat) (w' : World) (e : Ending) : Prop :=
  (rowsOk l n = false ∧ e = .returned (.tuple #[nilS, .int .i64 2])) ∨ (rowsOk l n = true ∧ ∃ v, e = .returned (.tuple #[v, .int .i64 0]) ∧ IRows base w' v (rfrom l (some n) n.length [] 255))

set_option maxRecDepth 100000 in
theorem refrows_calls {v nv : Value} {l : List Tile} {n : List Int} (w : World) (hr : RdT w v l) (hn : RdInts w nv n) : Calls Try.prog 48 #[v, nv] w fun e w' => Kp w w' ∧ RowsPost l n w.heap.size w' e := by
  have hn' := hn
  obtain ⟨na, nc, rfl, _, _⟩ := hn.len
  refine lift48 ?_
  unfold S48
  refine r_use fok35 (refset_calls w hr) rfl ?_
  rintro _ w1 ⟨rfl, k1⟩
  refine ⟨_, rfl, ?_⟩
  cases hs : setB l with
  | false =>
    simp (disch := omega) only [r_ln, r_pick, r_pickT, r_pickF, r_condT, r_condF, r_gdTT, r_gdFF, r_gdTF, r_gdFT, r_gqTT, r_gqFF, r_gqTF, r_gqFT, r_not, r_lss, r_leq, r_gtr, r_geq, r_eql, r_neq, r_add, r_sub, r_min2, r_max2, r_min3, r_max3, r_fa, r_iaS, r_iaA, r_ex2a, r_ex2b, r_ex3a, r_ex3b, r_ex3c, r_nc, r_keepE, Nat.zero_add, Nat.add_zero, Nat.mul_one, Int.toNat_natCast, toNat_sub1, toNat_add1, decide_true, decide_false, Bool.not_true, Bool.not_false, if_true, if_false, Bool.false_eq_true, reduceCtorEq]
    exact ⟨k1, .inl ⟨by rw [rowsOk, hs]; rfl, rfl⟩⟩
  | true =>
  simp (disch := omega) only [r_ln, r_pick, r_pickT, r_pickF, r_condT, r_condF, r_gdTT, r_gdFF, r_gdTF, r_gdFT, r_gqTT, r_gqFF, r_gqTF, r_gqFT, r_not, r_lss, r_leq, r_gtr, r_geq, r_eql, r_neq, r_add, r_sub, r_min2, r_max2, r_min3, r_max3, r_fa, r_iaS, r_iaA, r_ex2a, r_ex2b, r_ex3a, r_ex3b, r_ex3c, r_nc, r_keepE, Nat.zero_add, Nat.add_zero, Nat.mul_one, Int.toNat_natCast, toNat_sub1, toNat_add1, decide_true, decide_false, Bool.not_true, Bool.not_false, if_true, if_false, Bool.false_eq_true, reduceCtorEq]
  refine r_use fok68 (size_calls n.length w1) rfl ?_
  rintro _ _ ⟨rfl, rfl⟩
  refine ⟨_, rfl, ?_⟩
  cases hsd : sideB n.length with
  | false =>
    simp (disch := omega) only [r_ln, r_pick, r_pickT, r_pickF, r_condT, r_condF, r_gdTT, r_gdFF, r_gdTF, r_gdFT, r_gqTT, r_gqFF, r_gqTF, r_gqFT, r_not, r_lss, r_leq, r_gtr, r_geq, r_eql, r_neq, r_add, r_sub, r_min2, r_max2, r_min3, r_max3, r_fa, r_iaS, r_iaA, r_ex2a, r_ex2b, r_ex3a, r_ex3b, r_ex3c, r_nc, r_keepE, Nat.zero_add, Nat.add_zero, Nat.mul_one, Int.toNat_natCast, toNat_sub1, toNat_add1, decide_true, decide_false, Bool.not_true, Bool.not_false, if_true, if_false, Bool.false_eq_true, reduceCtorEq]
    exact ⟨k1, .inl ⟨by rw [rowsOk, hs, hsd]; rfl, rfl⟩⟩
  | true =>
  have hW : 1 ≤ n.length ∧ n.length ≤ 4 := by
    simp only [sideB, decide_eq_true_eq] at hsd
    omega
  simp (disch := omega) only [r_ln, r_pick, r_pickT, r_pickF, r_condT, r_condF, r_gdTT, r_gdFF, r_gdTF, r_gdFT, r_gqTT, r_gqFF, r_gqTF, r_gqFT, r_not, r_lss, r_leq, r_gtr, r_geq, r_eql, r_neq, r_add, r_sub, r_min2, r_max2, r_min3, r_max3, r_fa, r_iaS, r_iaA, r_ex2a, r_ex2b, r_ex3a, r_ex3b, r_ex3c, r_nc, r_keepE, Nat.zero_add, Nat.add_zero, Nat.mul_one, Int.toNat_natCast, toNat_sub1, toNat_add1, decide_true, decide_false, Bool.not_true, Bool.not_false, if_true, if_false, Bool.false_eq_true, reduceCtorEq]
  unfold S48L0
  refine ⟨fun t6 wr => ∃ i : Nat, i ≤ n.length ∧ t6 = .int .i64 i ∧ (n.take i).all colB = true ∧ Kp w wr, fun t6 _ => n.length - (intOf t6).toNat, ⟨0, by omega, rfl, rfl, k1⟩, ?_⟩
  rintro _ _ wr ⟨i, hi, rfl, hall, kr⟩
  by_cases hlt : i < n.length
  case neg =>
    have hlt' : ¬ (i : Int) < (n.length : Int) := by omega
    rw [List.take_of_length_le (by omega)] at hall
    simp (disch := omega) only [r_ln, r_pick, r_pickT, r_pickF, r_condT, r_condF, r_gdTT, r_gdFF, r_gdTF, r_gdFT, r_gqTT, r_gqFF, r_gqTF, r_gqFT, r_not, r_lss, r_leq, r_gtr, r_geq, r_eql, r_neq, r_add, r_sub, r_min2, r_max2, r_min3, r_max3, r_fa, r_iaS, r_iaA, r_ex2a, r_ex2b, r_ex3a, r_ex3b, r_ex3c, r_nc, r_keepE, Nat.zero_add, Nat.add_zero, Nat.mul_one, Int.toNat_natCast, toNat_sub1, toNat_add1, decide_true, decide_false, Bool.not_true, Bool.not_false, if_true, if_false, Bool.false_eq_true, reduceCtorEq, hlt']
    have hset := isSet_of hs
    have e255 : (Value.int .i64 255) = .int .i64 ((255 : Nat) : Int) := rfl
    rw [e255]
    have h2 := rfrom_calls (t0 := v) (t1 := .slice na n.length nc) (l := l) (nn := some n) (W := n.length) hset.cols (by have := hset.most; omega) (fun m e => by cases e; rfl) hW.2 n.length wr nilS [] 255 (by simp) (hr.kp kr) ⟨hn'.below kr, by omega⟩ ⟨none, 0, rfl, ⟨by simp, by simp⟩, fun h => absurd h (by simp)⟩ (by omega)
    refine r_use fok95 h2 rfl ?_
    rintro _ w2 ⟨v2, rfl, k2, o2⟩
    refine ⟨_, rfl, ?_⟩
    exact ⟨Kp.trans kr k2, .inr ⟨by rw [rowsOk, hs, hsd, hall]; rfl, v2, rfl, o2.down kr.size⟩⟩
  have hlt' : (i : Int) < (n.length : Int) := by omega
  obtain ⟨b, off, _, ev, hc⟩ := (hn'.below kr).at hlt
  cases ev
  have hii : (i : Int).toNat = i := by omega
  simp (disch := omega) only [r_ln, r_pick, r_pickT, r_pickF, r_condT, r_condF, r_gdTT, r_gdFF, r_gdTF, r_gdFT, r_gqTT, r_gqFF, r_gqTF, r_gqFT, r_not, r_lss, r_leq, r_gtr, r_geq, r_eql, r_neq, r_add, r_sub, r_min2, r_max2, r_min3, r_max3, r_fa, r_iaS, r_iaA, r_ex2a, r_ex2b, r_ex3a, r_ex3b, r_ex3c, r_nc, r_keepE, Nat.zero_add, Nat.add_zero, Nat.mul_one, Int.toNat_natCast, toNat_sub1, toNat_add1, decide_true, decide_false, Bool.not_true, Bool.not_false, if_true, if_false, Bool.false_eq_true, reduceCtorEq, decide_eq_true hlt', hii, r_ld hc]
  refine r_use fok62 (refcolour_calls _ wr) rfl ?_
  rintro _ _ ⟨rfl, rfl⟩
  refine ⟨_, rfl, ?_⟩
  rw [getD_lt _ _ _ hlt]
  cases hcol : colB n[i] with
  | false =>
    simp (disch := omega) only [r_ln, r_pick, r_pickT, r_pickF, r_condT, r_condF, r_gdTT, r_gdFF, r_gdTF, r_gdFT, r_gqTT, r_gqFF, r_gqTF, r_gqFT, r_not, r_lss, r_leq, r_gtr, r_geq, r_eql, r_neq, r_add, r_sub, r_min2, r_max2, r_min3, r_max3, r_fa, r_iaS, r_iaA, r_ex2a, r_ex2b, r_ex3a, r_ex3b, r_ex3c, r_nc, r_keepE, Nat.zero_add, Nat.add_zero, Nat.mul_one, Int.toNat_natCast, toNat_sub1, toNat_add1, decide_true, decide_false, Bool.not_true, Bool.not_false, if_true, if_false, Bool.false_eq_true, reduceCtorEq]
    refine ⟨kr, .inl ⟨?_, rfl⟩⟩
    have : n.all colB = false := by
      cases hh : n.all colB with
      | false => rfl
      | true =>
        have := List.all_eq_true.1 hh _ (List.getElem_mem hlt)
        rw [hcol] at this
        cases this
    rw [rowsOk, this, Bool.and_false]
  | true =>
    simp (disch := omega) only [r_ln, r_pick, r_pickT, r_pickF, r_condT, r_condF, r_gdTT, r_gdFF, r_gdTF, r_gdFT, r_gqTT, r_gqFF, r_gqTF, r_gqFT, r_not, r_lss, r_leq, r_gtr, r_geq, r_eql, r_neq, r_add, r_sub, r_min2, r_max2, r_min3, r_max3, r_fa, r_iaS, r_iaA, r_ex2a, r_ex2b, r_ex3a, r_ex3b, r_ex3c, r_nc, r_keepE, Nat.zero_add, Nat.add_zero, Nat.mul_one, Int.toNat_natCast, toNat_sub1, toNat_add1, decide_true, decide_false, Bool.not_true, Bool.not_false, if_true, if_false, Bool.false_eq_true, reduceCtorEq]
    refine ⟨⟨i + 1, by omega, by go_num, ?_, kr⟩, by simp only [intOf]; omega⟩
    rw [take_succ' _ _ hlt, List.all_append, hall]
    simp [hcol]

set_option maxRecDepth 100000 in
theorem firsts_calls {v : Value} {l : List Tile} {W : Nat} (w : World) (hr : RdT w v l) (hs : IsSet l) (hW : 1 ≤ W ∧ W ≤ 4) : Calls Try.prog 64 #[v, .int .i64 W] w fun e w' => ∃ v', e = .returned v' ∧ Kp w w' ∧ IRows w.heap.size w' v' (rfrom l none W [] 255) := by
  refine lift64 ?_
  unfold S64
  have e255 : (Value.int .i64 255) = .int .i64 ((255 : Nat) : Int) := rfl
  rw [e255]
  have h2 := rfrom_calls (t0 := v) (t1 := nilS) (l := l) (nn := none) (W := W) hs.cols (by have := hs.most; omega) (fun m e => by cases e) hW.2 W w nilS [] 255 (by simp) hr rfl ⟨none, 0, rfl, ⟨by simp, by simp⟩, fun h => absurd h (by simp)⟩ (by omega)
  refine r_use fok95 h2 rfl ?_
  rintro _ w2 ⟨v2, rfl, k2, o2⟩
  exact ⟨_, rfl, v2, rfl, k2, o2⟩

end Go.Proofs.Ytgalbokmgffhkaa
