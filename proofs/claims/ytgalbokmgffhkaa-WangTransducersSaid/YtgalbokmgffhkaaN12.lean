/- Texts of my own, merged by program: D10 Sg In. -/
import Derived.Test.YtgalbokmgffhkaaN08
import Derived.Test.YtgalbokmgffhkaaN11
import Derived.Test.YtgalbokmgffhkaaN06
import Derived.Test.YtgalbokmgffhkaaN03
import Derived.Test.YtgalbokmgffhkaaN10
set_option linter.all false
/- Contracts: Clone, numbers, sets; copies of integers. -/
namespace Go.Proofs.Ytgalbokmgffhkaa
open Go.Lf Go.RowKit Go.Wg

theorem bs30_0 (w : World) (K : Value → World → Prop) : bsW Try.prog 30 0 [] w K = K (.slice (some ⟨w.heap.size, 0, none⟩) 0 0) (w.alloc (.cells #[] 3)) := by kernel_rfl

theorem r_nilT {w : World} {K : Value → Prop} (h : K (.bool true)) : binQ Try.prog w .eql 30 true nilS nilS K := ⟨.bool true, fun w' _ => by kernel_rfl, h⟩
theorem r_nilF {w : World} {a : Addr} {n c : Nat} {K : Value → Prop} (h : K (.bool false)) : binQ Try.prog w .eql 30 true (.slice (some a) n c) nilS K := ⟨.bool false, fun w' _ => by kernel_rfl, h⟩

set_option maxRecDepth 100000 in
/-- append([]int{}, l...): a copy. -/
theorem r_copyI {w : World} {v : Value} {l : List Int} {K : Value → World → Prop} (hr : RdInts w v l) (hl : l.length ≤ 1000000)
    (hk : ∀ v' w', IntsAt w.heap.size w' v' l → Kp w w' → v' ≠ nilS → K v' w') :
    bsW Try.prog 30 0 [] w fun s w => semW Try.prog (apS [30, 30] 30 [s, v]) w K := by
  rw [bs30_0]
  have hk1 : Kp w (w.alloc (.cells #[] 3)) := below_alloc _
  have hown : (w.alloc (.cells #[] 3)).ownsRow w.heap.size 3 1 (.slice (some ⟨w.heap.size, 0, none⟩) 0 0) 0 [] := ⟨rfl, .inr ⟨w.heap.size, 0, #[], rfl, Nat.le_refl _, heap_alloc_new w _, Nat.le_refl _, by unfold maxLen; omega, rfl, rfl⟩⟩
  obtain ⟨a, cap, rfl, _, hh⟩ := hr.below hk1
  have hsz : w.heap.size ≤ (w.alloc (.cells #[] 3)).heap.size := hk1.size
  cases l with
  | nil => exact r_ap0 slt30 hown (hk _ _ hown hk1 (by intro e; cases e))
  | cons x l =>
    obtain ⟨b, off, rfl, hc⟩ := hh (by simp)
    refine r_ap (xs := []) (news := intCells (x :: l)) slt30 hown (by simp [intCells]) (fun j u hj => ?_) intCells_one (by simp at hl ⊢; omega) (by omega) hsz fun v' w' ho hg hn => ?_
    · have hlt : j < (x :: l).length := by
        have := (List.getElem?_eq_some_iff.1 hj).1
        simpa [intCells] using this
      rw [r_addr, hc j hlt]
      rw [← hj, intCells, List.getElem?_map, List.getElem?_eq_getElem hlt]
      rw [getD_lt _ _ _ hlt]; rfl
    · refine hk _ _ ?_ (Kp.of_chg hk1 (Chg.of_grown (S := fun k => k = w.heap.size) hg fun k e => by cases e; rfl) fun i e => by omega) fun e => ?_
      · have e2 : recCells iC (x :: l) = intCells (x :: l) := by rw [rec_ints]; rfl
        unfold IntsAt RecAt
        rw [e2]
        simpa using ho
      · have := (hn.1 e).2
        simp at this

set_option maxRecDepth 100000 in
/-- slices.Clone at integers. -/
theorem clone_calls {v : Value} {l : List Int} (w : World) (hr : RdInts w v l) (hl : l.length ≤ 1000000) : Calls Try.prog 79 #[v] w fun e w' => ∃ v', e = .returned v' ∧ IntsAt w.heap.size w' v' l ∧ Kp w w' := by
  have hr' := hr
  obtain ⟨a, cap, rfl, h1, hh⟩ := hr
  refine lift79 ?_
  unfold S79
  cases a with
  | some p =>
    refine r_nilF ?_
    simp only [r_ln, r_pick, r_pickT, r_pickF, r_condT, r_condF, r_gdTT, r_gdFF, r_gdTF, r_gdFT, r_gqTT, r_gqFF, r_gqTF, r_gqFT, r_not, r_lss, r_leq, r_gtr, r_geq, r_eql, r_neq, r_add, r_sub, r_min2, r_max2, r_min3, r_max3, r_fa, r_iaS, r_iaA, r_ex2a, r_ex2b, r_ex3a, r_ex3b, r_ex3c, r_nc, r_keepE, Nat.zero_add, Nat.add_zero, Nat.mul_one, Int.toNat_natCast, toNat_sub1, toNat_add1, decide_true, decide_false, Bool.not_true, Bool.not_false, if_true, if_false, Bool.false_eq_true, reduceCtorEq]
    exact r_copyI hr' hl fun v' w' ho hk _ => ⟨v', rfl, ho, hk⟩
  | none =>
    have e0 : l.length = 0 := by
      by_cases h : 0 < l.length
      · obtain ⟨b, off, e, _⟩ := hh h
        cases e
      · omega
    have el : l = [] := List.length_eq_zero_iff.1 e0
    subst el
    have hnil : binQ Try.prog w .eql 30 true (.slice none ([] : List Int).length cap) (.slice none 0 0) = fun K => binQ Try.prog w .eql 30 true (.slice none 0 cap) nilS K := rfl
    rw [hnil]
    refine ⟨.bool true, fun w' _ => by kernel_rfl, ?_⟩
    simp only [r_ln, r_pick, r_pickT, r_pickF, r_condT, r_condF, r_gdTT, r_gdFF, r_gdTF, r_gdFT, r_gqTT, r_gqFF, r_gqTF, r_gqFT, r_not, r_lss, r_leq, r_gtr, r_geq, r_eql, r_neq, r_add, r_sub, r_min2, r_max2, r_min3, r_max3, r_fa, r_iaS, r_iaA, r_ex2a, r_ex2b, r_ex3a, r_ex3b, r_ex3c, r_nc, r_keepE, Nat.zero_add, Nat.add_zero, Nat.mul_one, Int.toNat_natCast, toNat_sub1, toNat_add1, decide_true, decide_false, Bool.not_true, Bool.not_false, if_true, if_false, Bool.false_eq_true, reduceCtorEq]
    exact ⟨_, rfl, RecAt.nil, Kp.refl _⟩

set_option maxRecDepth 100000 in
/-- numbers: the same numbers? -/
theorem numbers_calls {va vb : Value} {la lb : List Int} (w : World) (ha : RdInts w va la) (hb : RdInts w vb lb) : Calls Try.prog 43 #[va, vb] w fun e w' => e = .returned (.bool (decide (la = lb))) ∧ Kp w w' := by
  obtain ⟨aa, ca, rfl, ha1, _⟩ := ha.len
  obtain ⟨ab, cb, rfl, hb1, _⟩ := hb.len
  refine lift43 ?_
  unfold S43
  by_cases hlen : (la.length : Int) = (lb.length : Int)
  case neg =>
    simp (disch := omega) only [r_ln, r_pick, r_pickT, r_pickF, r_condT, r_condF, r_gdTT, r_gdFF, r_gdTF, r_gdFT, r_gqTT, r_gqFF, r_gqTF, r_gqFT, r_not, r_lss, r_leq, r_gtr, r_geq, r_eql, r_neq, r_add, r_sub, r_min2, r_max2, r_min3, r_max3, r_fa, r_iaS, r_iaA, r_ex2a, r_ex2b, r_ex3a, r_ex3b, r_ex3c, r_nc, r_keepE, Nat.zero_add, Nat.add_zero, Nat.mul_one, Int.toNat_natCast, toNat_sub1, toNat_add1, decide_true, decide_false, Bool.not_true, Bool.not_false, if_true, if_false, Bool.false_eq_true, reduceCtorEq, hlen]
    exact ⟨ret_bool (decide_eq_false (fun e => hlen (by rw [e]))).symm, Kp.refl _⟩
  simp (disch := omega) only [r_ln, r_pick, r_pickT, r_pickF, r_condT, r_condF, r_gdTT, r_gdFF, r_gdTF, r_gdFT, r_gqTT, r_gqFF, r_gqTF, r_gqFT, r_not, r_lss, r_leq, r_gtr, r_geq, r_eql, r_neq, r_add, r_sub, r_min2, r_max2, r_min3, r_max3, r_fa, r_iaS, r_iaA, r_ex2a, r_ex2b, r_ex3a, r_ex3b, r_ex3c, r_nc, r_keepE, Nat.zero_add, Nat.add_zero, Nat.mul_one, Int.toNat_natCast, toNat_sub1, toNat_add1, decide_true, decide_false, Bool.not_true, Bool.not_false, if_true, if_false, Bool.false_eq_true, reduceCtorEq, decide_eq_true hlen]
  refine ⟨fun t5 wr => ∃ i : Nat, i ≤ la.length ∧ t5 = .int .i64 i ∧ la.take i = lb.take i ∧ Kp w wr, fun t5 _ => la.length - (intOf t5).toNat, ⟨0, by omega, rfl, by simp, Kp.refl _⟩, ?_⟩
  rintro _ _ wr ⟨i, hi, rfl, he, hk⟩
  by_cases hlt : i < la.length
  case neg =>
    have hlt' : ¬ (i : Int) < (la.length : Int) := by omega
    rw [List.take_of_length_le (by omega), List.take_of_length_le (by omega)] at he
    simp (disch := omega) only [r_ln, r_pick, r_pickT, r_pickF, r_condT, r_condF, r_gdTT, r_gdFF, r_gdTF, r_gdFT, r_gqTT, r_gqFF, r_gqTF, r_gqFT, r_not, r_lss, r_leq, r_gtr, r_geq, r_eql, r_neq, r_add, r_sub, r_min2, r_max2, r_min3, r_max3, r_fa, r_iaS, r_iaA, r_ex2a, r_ex2b, r_ex3a, r_ex3b, r_ex3c, r_nc, r_keepE, Nat.zero_add, Nat.add_zero, Nat.mul_one, Int.toNat_natCast, toNat_sub1, toNat_add1, decide_true, decide_false, Bool.not_true, Bool.not_false, if_true, if_false, Bool.false_eq_true, reduceCtorEq, hlt']
    exact ⟨ret_bool (decide_eq_true he).symm, hk⟩
  have hlt' : (i : Int) < (la.length : Int) := by omega
  have hltb : i < lb.length := by omega
  simp (disch := omega) only [r_ln, r_pick, r_pickT, r_pickF, r_condT, r_condF, r_gdTT, r_gdFF, r_gdTF, r_gdFT, r_gqTT, r_gqFF, r_gqTF, r_gqFT, r_not, r_lss, r_leq, r_gtr, r_geq, r_eql, r_neq, r_add, r_sub, r_min2, r_max2, r_min3, r_max3, r_fa, r_iaS, r_iaA, r_ex2a, r_ex2b, r_ex3a, r_ex3b, r_ex3c, r_nc, r_keepE, Nat.zero_add, Nat.add_zero, Nat.mul_one, Int.toNat_natCast, toNat_sub1, toNat_add1, decide_true, decide_false, Bool.not_true, Bool.not_false, if_true, if_false, Bool.false_eq_true, reduceCtorEq, decide_eq_true hlt']
  refine r_drew fun w2 k2 _ => ?_
  have k02 := Kp.trans hk k2
  obtain ⟨b1, o1, c1, e1, hc1⟩ := (ha.below k02).at hlt
  obtain ⟨b2, o2, c2, e2, hc2⟩ := (hb.below k02).at hltb
  cases e1
  cases e2
  have hi' : (i : Int).toNat = i := by omega
  simp (disch := omega) only [r_ln, r_pick, r_pickT, r_pickF, r_condT, r_condF, r_gdTT, r_gdFF, r_gdTF, r_gdFT, r_gqTT, r_gqFF, r_gqTF, r_gqFT, r_not, r_lss, r_leq, r_gtr, r_geq, r_eql, r_neq, r_add, r_sub, r_min2, r_max2, r_min3, r_max3, r_fa, r_iaS, r_iaA, r_ex2a, r_ex2b, r_ex3a, r_ex3b, r_ex3c, r_nc, r_keepE, Nat.zero_add, Nat.add_zero, Nat.mul_one, Int.toNat_natCast, toNat_sub1, toNat_add1, decide_true, decide_false, Bool.not_true, Bool.not_false, if_true, if_false, Bool.false_eq_true, reduceCtorEq, hi', r_ld hc1, r_ld hc2]
  rw [getD_lt _ _ _ hlt, getD_lt _ _ _ hltb]
  by_cases hx : la[i] = lb[i]
  · simp (disch := omega) only [r_ln, r_pick, r_pickT, r_pickF, r_condT, r_condF, r_gdTT, r_gdFF, r_gdTF, r_gdFT, r_gqTT, r_gqFF, r_gqTF, r_gqFT, r_not, r_lss, r_leq, r_gtr, r_geq, r_eql, r_neq, r_add, r_sub, r_min2, r_max2, r_min3, r_max3, r_fa, r_iaS, r_iaA, r_ex2a, r_ex2b, r_ex3a, r_ex3b, r_ex3c, r_nc, r_keepE, Nat.zero_add, Nat.add_zero, Nat.mul_one, Int.toNat_natCast, toNat_sub1, toNat_add1, decide_true, decide_false, Bool.not_true, Bool.not_false, if_true, if_false, Bool.false_eq_true, reduceCtorEq, decide_eq_true hx]
    refine ⟨⟨i + 1, by omega, by go_num, ?_, k02⟩, by simp only [intOf]; omega⟩
    rw [take_succ' _ _ hlt, take_succ' _ _ hltb, he, hx]
  · simp (disch := omega) only [r_ln, r_pick, r_pickT, r_pickF, r_condT, r_condF, r_gdTT, r_gdFF, r_gdTF, r_gdFT, r_gqTT, r_gqFF, r_gqTF, r_gqFT, r_not, r_lss, r_leq, r_gtr, r_geq, r_eql, r_neq, r_add, r_sub, r_min2, r_max2, r_min3, r_max3, r_fa, r_iaS, r_iaA, r_ex2a, r_ex2b, r_ex3a, r_ex3b, r_ex3c, r_nc, r_keepE, Nat.zero_add, Nat.add_zero, Nat.mul_one, Int.toNat_natCast, toNat_sub1, toNat_add1, decide_true, decide_false, Bool.not_true, Bool.not_false, if_true, if_false, Bool.false_eq_true, reduceCtorEq, hx]
    exact ⟨ret_bool (decide_eq_false (fun e => hx (by subst e; rfl))).symm, k02⟩

set_option maxRecDepth 100000 in
/-- sets: the same tiles? -/
theorem sets_calls {va vb : Value} {la lb : List Tile} (w : World) (ha : Rd 4 tlC w va la) (hb : Rd 4 tlC w vb lb) (hl : la.length ≤ 1000000) : Calls Try.prog 30 #[va, vb] w fun e w' => e = .returned (.bool (decide (la = lb))) ∧ Kp w w' := by
  obtain ⟨aa, ca, rfl, _⟩ := ha.len
  obtain ⟨ab, cb, rfl, _⟩ := hb.len
  refine lift30 ?_
  unfold S30
  by_cases hlen : (la.length : Int) = (lb.length : Int)
  case neg =>
    simp (disch := omega) only [r_ln, r_pick, r_pickT, r_pickF, r_condT, r_condF, r_gdTT, r_gdFF, r_gdTF, r_gdFT, r_gqTT, r_gqFF, r_gqTF, r_gqFT, r_not, r_lss, r_leq, r_gtr, r_geq, r_eql, r_neq, r_add, r_sub, r_min2, r_max2, r_min3, r_max3, r_fa, r_iaS, r_iaA, r_ex2a, r_ex2b, r_ex3a, r_ex3b, r_ex3c, r_nc, r_keepE, Nat.zero_add, Nat.add_zero, Nat.mul_one, Int.toNat_natCast, toNat_sub1, toNat_add1, decide_true, decide_false, Bool.not_true, Bool.not_false, if_true, if_false, Bool.false_eq_true, reduceCtorEq, hlen]
    exact ⟨ret_bool (decide_eq_false (fun e => hlen (by rw [e]))).symm, Kp.refl _⟩
  simp (disch := omega) only [r_ln, r_pick, r_pickT, r_pickF, r_condT, r_condF, r_gdTT, r_gdFF, r_gdTF, r_gdFT, r_gqTT, r_gqFF, r_gqTF, r_gqFT, r_not, r_lss, r_leq, r_gtr, r_geq, r_eql, r_neq, r_add, r_sub, r_min2, r_max2, r_min3, r_max3, r_fa, r_iaS, r_iaA, r_ex2a, r_ex2b, r_ex3a, r_ex3b, r_ex3c, r_nc, r_keepE, Nat.zero_add, Nat.add_zero, Nat.mul_one, Int.toNat_natCast, toNat_sub1, toNat_add1, decide_true, decide_false, Bool.not_true, Bool.not_false, if_true, if_false, Bool.false_eq_true, reduceCtorEq, decide_eq_true hlen]
  refine ⟨fun t5 wr => ∃ i : Nat, i ≤ la.length ∧ t5 = .int .i64 i ∧ la.take i = lb.take i ∧ Kp w wr, fun t5 _ => la.length - (intOf t5).toNat, ⟨0, by omega, rfl, by simp, Kp.refl _⟩, ?_⟩
  rintro _ _ wr ⟨i, hi, rfl, he, hk⟩
  by_cases hlt : i < la.length
  case neg =>
    have hlt' : ¬ (i : Int) < (la.length : Int) := by omega
    rw [List.take_of_length_le (by omega), List.take_of_length_le (by omega)] at he
    simp (disch := omega) only [r_ln, r_pick, r_pickT, r_pickF, r_condT, r_condF, r_gdTT, r_gdFF, r_gdTF, r_gdFT, r_gqTT, r_gqFF, r_gqTF, r_gqFT, r_not, r_lss, r_leq, r_gtr, r_geq, r_eql, r_neq, r_add, r_sub, r_min2, r_max2, r_min3, r_max3, r_fa, r_iaS, r_iaA, r_ex2a, r_ex2b, r_ex3a, r_ex3b, r_ex3c, r_nc, r_keepE, Nat.zero_add, Nat.add_zero, Nat.mul_one, Int.toNat_natCast, toNat_sub1, toNat_add1, decide_true, decide_false, Bool.not_true, Bool.not_false, if_true, if_false, Bool.false_eq_true, reduceCtorEq, hlt']
    exact ⟨ret_bool (decide_eq_true he).symm, hk⟩
  have hlt' : (i : Int) < (la.length : Int) := by omega
  have hltb : i < lb.length := by omega
  simp (disch := omega) only [r_ln, r_pick, r_pickT, r_pickF, r_condT, r_condF, r_gdTT, r_gdFF, r_gdTF, r_gdFT, r_gqTT, r_gqFF, r_gqTF, r_gqFT, r_not, r_lss, r_leq, r_gtr, r_geq, r_eql, r_neq, r_add, r_sub, r_min2, r_max2, r_min3, r_max3, r_fa, r_iaS, r_iaA, r_ex2a, r_ex2b, r_ex3a, r_ex3b, r_ex3c, r_nc, r_keepE, Nat.zero_add, Nat.add_zero, Nat.mul_one, Int.toNat_natCast, toNat_sub1, toNat_add1, decide_true, decide_false, Bool.not_true, Bool.not_false, if_true, if_false, Bool.false_eq_true, reduceCtorEq, decide_eq_true hlt']
  refine r_drew fun w2 k2 _ => ?_
  have k02 := Kp.trans hk k2
  obtain ⟨b1, o1, c1, e1, _, hc1⟩ := (ha.kp k02).at (List.getElem?_eq_getElem hlt)
  obtain ⟨b2, o2, c2, e2, _, hc2⟩ := (hb.kp k02).at (List.getElem?_eq_getElem hltb)
  cases e1
  cases e2
  have hi' : (i : Int).toNat = i := by omega
  simp (disch := omega) only [r_ln, r_pick, r_pickT, r_pickF, r_condT, r_condF, r_gdTT, r_gdFF, r_gdTF, r_gdFT, r_gqTT, r_gqFF, r_gqTF, r_gqFT, r_not, r_lss, r_leq, r_gtr, r_geq, r_eql, r_neq, r_add, r_sub, r_min2, r_max2, r_min3, r_max3, r_fa, r_iaS, r_iaA, r_ex2a, r_ex2b, r_ex3a, r_ex3b, r_ex3c, r_nc, r_keepE, Nat.zero_add, Nat.add_zero, Nat.mul_one, Int.toNat_natCast, toNat_sub1, toNat_add1, decide_true, decide_false, Bool.not_true, Bool.not_false, if_true, if_false, Bool.false_eq_true, reduceCtorEq, hi', r_ldCells (tlC_len _) hc1, r_ldCells (tlC_len _) hc2]
  have ev : ∀ t : Tile, Value.agg (tlC t).toArray = tlV t := fun t => rfl
  rw [ev, ev, r_ne32]
  by_cases hx : la[i] = lb[i]
  · simp (disch := omega) only [r_ln, r_pick, r_pickT, r_pickF, r_condT, r_condF, r_gdTT, r_gdFF, r_gdTF, r_gdFT, r_gqTT, r_gqFF, r_gqTF, r_gqFT, r_not, r_lss, r_leq, r_gtr, r_geq, r_eql, r_neq, r_add, r_sub, r_min2, r_max2, r_min3, r_max3, r_fa, r_iaS, r_iaA, r_ex2a, r_ex2b, r_ex3a, r_ex3b, r_ex3c, r_nc, r_keepE, Nat.zero_add, Nat.add_zero, Nat.mul_one, Int.toNat_natCast, toNat_sub1, toNat_add1, decide_true, decide_false, Bool.not_true, Bool.not_false, if_true, if_false, Bool.false_eq_true, reduceCtorEq, decide_eq_true hx]
    refine ⟨⟨i + 1, by omega, by go_num, ?_, k02⟩, by simp only [intOf]; omega⟩
    rw [take_succ' _ _ hlt, take_succ' _ _ hltb, he, hx]
  · simp (disch := omega) only [r_ln, r_pick, r_pickT, r_pickF, r_condT, r_condF, r_gdTT, r_gdFF, r_gdTF, r_gdFT, r_gqTT, r_gqFF, r_gqTF, r_gqFT, r_not, r_lss, r_leq, r_gtr, r_geq, r_eql, r_neq, r_add, r_sub, r_min2, r_max2, r_min3, r_max3, r_fa, r_iaS, r_iaA, r_ex2a, r_ex2b, r_ex3a, r_ex3b, r_ex3c, r_nc, r_keepE, Nat.zero_add, Nat.add_zero, Nat.mul_one, Int.toNat_natCast, toNat_sub1, toNat_add1, decide_true, decide_false, Bool.not_true, Bool.not_false, if_true, if_false, Bool.false_eq_true, reduceCtorEq, hx]
    exact ⟨ret_bool (decide_eq_false (fun e => hx (by subst e; rfl))).symm, k02⟩

end Go.Proofs.Ytgalbokmgffhkaa

/- Lifted texts, printed by program (gen.py): what each function's code asks. The ties are by the kernel. -/
namespace Go.Proofs.Ytgalbokmgffhkaa
open Go.Lf Go.RowKit

def S20L1 (t1 t3 t11 : Value) (next : Value → World → Prop) (R : Ending → World → Prop) (w : World) : Prop :=
  Loop1 (.int .i64 1) w fun _ t12 w next_2 =>
    binQ Try.prog w .leq 3 false t12 t1 fun t81 =>
    condW t81 (
      iaS 1 t3 t11 fun t86 =>
      ld1 w t86 fun t87 =>
      iaS 1 t87 t12 fun t89 =>
      ld1 w t89 fun t90 =>
      callW Try.prog (.func (.func 62) #[] #[]) [t90] w fun t91 w =>
      unQ .not t91 fun t92 =>
      condW t92 (
        R (.returned (.tuple #[(.bool false), (.int .i64 0)])) w
      ) (
        binQ Try.prog w .add 3 true t12 (.int .i64 1) fun t83 =>
        next_2 t83 w
      )
    ) (
      binQ Try.prog w .add 3 true t11 (.int .i64 1) fun t34 =>
      next t34 w
    )

def S20L3 (t3 t13 t107 : Value) (next_3 : Value → World → Prop) (R : Ending → World → Prop) (w : World) : Prop :=
  Loop1 (.int .i64 0) w fun _ t16 w next_4 =>
    ln1 t107 fun t111 =>
    binQ Try.prog w .lss 3 false t16 t111 fun t112 =>
    condW t112 (
      Drew w fun w =>
      iaS 1 t107 t16 fun t118 =>
      ld1 w t118 fun t119 =>
      iaS 1 t3 t13 fun t122 =>
      ld1 w t122 fun t123 =>
      iaS 1 t123 (.int .i64 0) fun t124 =>
      ld1 w t124 fun t125 =>
      callW Try.prog (.func (.func 63) #[] #[]) [t3, t119, t125] w fun t126 w =>
      unQ .not t126 fun t127 =>
      condW t127 (
        R (.returned (.tuple #[(.bool false), (.int .i64 0)])) w
      ) (
        binQ Try.prog w .add 3 true t16 (.int .i64 1) fun t114 =>
        next_4 t114 w
      )
    ) (
      binQ Try.prog w .add 3 true t13 (.int .i64 1) fun t98 =>
      next_3 t98 w
    )

def S20L4 (t2 t3 t130 : Value) (R : Ending → World → Prop) (w : World) : Prop :=
  Loop1 (.int .i64 0) w fun _ t18 w next_5 =>
    ln1 t130 fun t133 =>
    binQ Try.prog w .lss 3 false t18 t133 fun t134 =>
    condW t134 (
      iaS 1 t130 t18 fun t140 =>
      ld1 w t140 fun t141 =>
      callW Try.prog (.func (.func 63) #[] #[]) [t3, t141, t2] w fun t143 w =>
      unQ .not t143 fun t144 =>
      condW t144 (
        R (.returned (.tuple #[(.bool false), (.int .i64 0)])) w
      ) (
        binQ Try.prog w .add 3 true t18 (.int .i64 1) fun t136 =>
        next_5 t136 w
      )
    ) (
      R (.returned (.tuple #[(.bool true), (.int .i64 0)])) w
    )

def S20L2 (t0 t1 t2 t3 : Value) (R : Ending → World → Prop) (w : World) : Prop :=
  Loop1 (.int .i64 0) w fun _ t13 w next_3 =>
    ln1 t3 fun t95 =>
    binQ Try.prog w .lss 3 false t13 t95 fun t96 =>
    condW t96 (
      iaS 1 t3 t13 fun t103 =>
      ld1 w t103 fun t104 =>
      slS 1 t104 (some (.int .i64 1)) none fun t105 =>
      callW Try.prog (.func (.func 48) #[] #[]) [t0, t105] w fun t106 w =>
      exQ t106 0 fun t107 =>
      exQ t106 1 fun t108 =>
      S20L3 t3 t13 t107 next_3 R w
    ) (
      callW Try.prog (.func (.func 64) #[] #[]) [t0, t1] w fun t130 w =>
      S20L4 t2 t3 t130 R w
    )

def S20L0 (t0 t1 t2 t3 : Value) (R : Ending → World → Prop) (w : World) : Prop :=
  Loop1 (.int .i64 0) w fun _ t11 w next =>
    ln1 t3 fun t31 =>
    binQ Try.prog w .lss 3 false t11 t31 fun t32 =>
    condW t32 (
      Drew w fun w =>
      iaS 1 t3 t11 fun t37 =>
      ld1 w t37 fun t38 =>
      ln1 t38 fun t39 =>
      binQ Try.prog w .add 3 true t1 (.int .i64 1) fun t41 =>
      binQ Try.prog w .neq 3 false t39 t41 fun t42 =>
      gdQ t42 false (fun k => k t3) fun t44 =>
      gdQ t42 false (fun k => k t11) fun t45 =>
      gdQ t42 false (fun k => iaS 1 t44 t45 k) fun t46 =>
      gdQ t42 false (fun k => ld1 w t46 k) fun t47 =>
      gdQ t42 false (fun k => iaS 1 t47 (.int .i64 0) k) fun t48 =>
      gdQ t42 false (fun k => ld1 w t48 k) fun t49 =>
      gdQ t42 false (fun k => binQ Try.prog w .lss 3 true t49 (.int .i64 1) k) fun t50 =>
      pickQ t42 (.bool true) t50 fun t51 =>
      gdQ t51 false (fun k => k t3) fun t53 =>
      gdQ t51 false (fun k => k t11) fun t54 =>
      gdQ t51 false (fun k => iaS 1 t53 t54 k) fun t55 =>
      gdQ t51 false (fun k => ld1 w t55 k) fun t56 =>
      gdQ t51 false (fun k => iaS 1 t56 (.int .i64 0) k) fun t57 =>
      gdQ t51 false (fun k => ld1 w t57 k) fun t58 =>
      gdQ t51 false (fun k => k t2) fun t59 =>
      gdQ t51 false (fun k => binQ Try.prog w .geq 3 false t58 t59 k) fun t60 =>
      pickQ t51 (.bool true) t60 fun t61 =>
      gdQ t61 false (fun k => k t11) fun t63 =>
      gdQ t61 false (fun k => binQ Try.prog w .gtr 3 true t63 (.int .i64 0) k) fun t64 =>
      gdQ t61 false (fun k => k t64) fun t65 =>
      gdQ t65 true (fun k => k t3) fun t66 =>
      gdQ t65 true (fun k => k t11) fun t67 =>
      gdQ t65 true (fun k => binQ Try.prog w .sub 3 true t67 (.int .i64 1) k) fun t68 =>
      gdQ t65 true (fun k => iaS 1 t66 t68 k) fun t69 =>
      gdQ t65 true (fun k => ld1 w t69 k) fun t70 =>
      gdQ t65 true (fun k => k t3) fun t71 =>
      gdQ t65 true (fun k => k t11) fun t72 =>
      gdQ t65 true (fun k => iaS 1 t71 t72 k) fun t73 =>
      gdQ t65 true (fun k => ld1 w t73 k) fun t74 =>
      gd t65 true (fun k => callW Try.prog (.func (.func 61) #[] #[]) [t70, t74] w k) w <| keepB w fun t75 w =>
      gdQ t65 true (fun k => unQ .not t75 k) fun t76 =>
      gdQ t61 false (fun k => pickQ t65 t76 (.bool false) k) fun t77 =>
      pickQ t61 (.bool true) t77 fun t78 =>
      condW t78 (
        R (.returned (.tuple #[(.bool false), (.int .i64 0)])) w
      ) (
        S20L1 t1 t3 t11 next R w
      )
    ) (
      S20L2 t0 t1 t2 t3 R w
    )

def S20 (t0 t1 t2 t3 : Value) (w : World) (R : Ending → World → Prop) : Prop :=
  callW Try.prog (.func (.func 23) #[] #[]) [t0, t1, t2] w fun t22 w =>
  binQ Try.prog w .neq 26 true t22 (.int .i64 0) fun t24 =>
  condW t24 (
    R (.returned (.tuple #[(.bool false), t22])) w
  ) (
    ln1 t3 fun t27 =>
    binQ Try.prog w .gtr 3 true t27 (.int .i64 65535) fun t28 =>
    condW t28 (
      R (.returned (.tuple #[(.bool false), (.int .i64 3)])) w
    ) (
      S20L0 t0 t1 t2 t3 R w
    )
  )

def A20 : Ann where
  live := fun
    | 0 => [11]
    | 2 => [12]
    | 4 => [13]
    | 6 => [16]
    | 8 => [18]
    | _ => []
  wr := fun
    | 0 => fun i => (Nat.ble 8 i && Nat.ble i 9) || (Nat.ble 11 i && Nat.ble i 12) || (Nat.ble 29 i && Nat.ble i 92)
    | 2 => fun i => (Nat.ble 8 i && Nat.ble i 9) || Nat.beq i 12 || (Nat.ble 79 i && Nat.ble i 92)
    | 4 => fun i => (Nat.ble 8 i && Nat.ble i 9) || (Nat.ble 13 i && Nat.ble i 16) || (Nat.ble 93 i && Nat.ble i 127)
    | 6 => fun i => (Nat.ble 8 i && Nat.ble i 9) || Nat.beq i 16 || (Nat.ble 109 i && Nat.ble i 127)
    | 8 => fun i => (Nat.ble 8 i && Nat.ble i 9) || Nat.beq i 18 || (Nat.ble 131 i && Nat.ble i 144)
    | _ => fun _ => false
  sched := fun
    | 9 => (.take 0 (.take 1 (.take 2 (.take 3 (.take 4 (.take 5 (.take 6 (.take 7 (.take 8 (.take 9 (.take 10 (.take 11 (.take 12 (.take 13 (.take 14 (.take 15 (.take 16 (.take 17 (.take 18 (.take 19 (.take 20 (.take 21 (.take 22 (.take 23 (.take 24 (.take 25 (.take 26 (.take 27 (.take 28 (.take 29 (.take 30 (.take 31 (.take 32 (.take 33 (.take 34 (.take 35 (.take 36 (.take 37 (.take 38 (.take 39 (.eff 40 (.take 41 (.take 42 (.take 43 .done))))))))))))))))))))))))))))))))))))))))))))
    | 23 => (.take 0 (.take 1 (.take 2 (.take 3 (.take 4 (.take 5 (.take 6 (.take 7 (.take 8 (.take 9 (.take 10 (.bar 11 (.take 12 .done)))))))))))))
    | _ => .done

set_option maxRecDepth 100000 in
theorem ok20 : (codeOk Try.f20.ntmps A20 (Try.f20.body.getD .skip) 0 && Nat.ble 4 Try.f20.ntmps) = true := by kernel_rfl
set_option maxRecDepth 100000 in
theorem lift20 {t0 t1 t2 t3 : Value} {w : World} {R : Ending → World → Prop} (h : S20 t0 t1 t2 t3 w R) : Calls Try.prog 20 #[t0, t1, t2, t3] w R :=
  calls_of_cw (fn := Try.f20) (c := Try.f20.body.getD .skip) A20 mixes Try.func20 (by kernel_rfl) ok20
    ((by kernel_rfl : (S20 t0 t1 t2 t3 w R) = cw Try.prog A20 (Try.f20.body.getD .skip) 0 (bodyQ Try.prog Try.f20 R) (frOf #[t0, t1, t2, t3]) w).mp h)

def S48L0 (t0 t1 : Value) (R : Ending → World → Prop) (w : World) : Prop :=
  Loop1 (.int .i64 0) w fun _ t6 w next =>
    ln1 t1 fun t18 =>
    binQ Try.prog w .lss 3 false t6 t18 fun t19 =>
    condW t19 (
      iaS 1 t1 t6 fun t24 =>
      ld1 w t24 fun t25 =>
      callW Try.prog (.func (.func 62) #[] #[]) [t25] w fun t26 w =>
      unQ .not t26 fun t27 =>
      condW t27 (
        R (.returned (.tuple #[(.slice none 0 0), (.int .i64 2)])) w
      ) (
        binQ Try.prog w .add 3 true t6 (.int .i64 1) fun t21 =>
        next t21 w
      )
    ) (
      ln1 t1 fun t31 =>
      callW Try.prog (.func (.func 95) #[] #[]) [t0, t1, t31, (.slice none 0 0), (.int .i64 255)] w fun t32 w =>
      R (.returned (.tuple #[t32, (.int .i64 0)])) w
    )

def S48 (t0 t1 : Value) (w : World) (R : Ending → World → Prop) : Prop :=
  callW Try.prog (.func (.func 35) #[] #[]) [t0] w fun t8 w =>
  unQ .not t8 fun t9 =>
  gd t9 false (fun k => k t1 w) w fun t11 w =>
  gd t9 false (fun k => ln1 t11 fun v => k v w) w fun t12 w =>
  gd t9 false (fun k => callW Try.prog (.func (.func 68) #[] #[]) [t12] w k) w fun t13 w =>
  gd t9 false (fun k => unQ .not t13 fun v => k v w) w fun t14 w =>
  pickQ t9 (.bool true) t14 fun t15 =>
  condW t15 (
    R (.returned (.tuple #[(.slice none 0 0), (.int .i64 2)])) w
  ) (
    S48L0 t0 t1 R w
  )

def A48 : Ann where
  live := fun
    | 0 => [6]
    | _ => []
  wr := fun
    | 0 => fun i => (Nat.ble 4 i && Nat.ble i 6) || (Nat.ble 16 i && Nat.ble i 27)
    | _ => fun _ => false
  sched := fun _ => .done

set_option maxRecDepth 100000 in
theorem ok48 : (codeOk Try.f48.ntmps A48 (Try.f48.body.getD .skip) 0 && Nat.ble 2 Try.f48.ntmps) = true := by kernel_rfl
set_option maxRecDepth 100000 in
theorem lift48 {t0 t1 : Value} {w : World} {R : Ending → World → Prop} (h : S48 t0 t1 w R) : Calls Try.prog 48 #[t0, t1] w R :=
  calls_of_cw (fn := Try.f48) (c := Try.f48.body.getD .skip) A48 mixes Try.func48 (by kernel_rfl) ok48
    ((by kernel_rfl : (S48 t0 t1 w R) = cw Try.prog A48 (Try.f48.body.getD .skip) 0 (bodyQ Try.prog Try.f48 R) (frOf #[t0, t1]) w).mp h)

def S61L0 (t0 t1 : Value) (R : Ending → World → Prop) (w : World) : Prop :=
  Loop1 (.int .i64 0) w fun _ t5 w next =>
    ln1 t0 fun t8 =>
    binQ Try.prog w .lss 3 false t5 t8 fun t9 =>
    condW t9 (
      Drew w fun w =>
      iaS 1 t0 t5 fun t14 =>
      ld1 w t14 fun t15 =>
      iaS 1 t1 t5 fun t18 =>
      ld1 w t18 fun t19 =>
      binQ Try.prog w .neq 3 false t15 t19 fun t20 =>
      condW t20 (
        Drew w fun w =>
        iaS 1 t0 t5 fun t23 =>
        ld1 w t23 fun t24 =>
        iaS 1 t1 t5 fun t27 =>
        ld1 w t27 fun t28 =>
        binQ Try.prog w .lss 3 false t24 t28 fun t29 =>
        R (.returned t29) w
      ) (
        binQ Try.prog w .add 3 true t5 (.int .i64 1) fun t11 =>
        next t11 w
      )
    ) (
      R (.returned (.bool false)) w
    )



def S61 (t0 t1 : Value) (w : World) (R : Ending → World → Prop) : Prop :=
  S61L0 t0 t1 R w

def A61 : Ann where
  live := fun
    | 0 => [5]
    | _ => []
  wr := fun
    | 0 => fun i => (Nat.ble 4 i && Nat.ble i 29)
    | _ => fun _ => false
  sched := fun
    | 4 => (.take 0 (.take 1 (.take 2 (.take 3 (.take 4 (.take 5 (.take 6 (.take 7 (.take 8 .done)))))))))
    | 5 => (.take 0 (.take 1 (.take 2 (.take 3 (.take 4 (.take 5 (.take 6 (.take 7 (.take 8 (.take 9 .done))))))))))
    | _ => .done

set_option maxRecDepth 100000 in
theorem ok61 : (codeOk Try.f61.ntmps A61 (Try.f61.body.getD .skip) 0 && Nat.ble 2 Try.f61.ntmps) = true := by kernel_rfl
set_option maxRecDepth 100000 in
theorem lift61 {t0 t1 : Value} {w : World} {R : Ending → World → Prop} (h : S61 t0 t1 w R) : Calls Try.prog 61 #[t0, t1] w R :=
  calls_of_cw (fn := Try.f61) (c := Try.f61.body.getD .skip) A61 mixes Try.func61 (by kernel_rfl) ok61
    ((by kernel_rfl : (S61 t0 t1 w R) = cw Try.prog A61 (Try.f61.body.getD .skip) 0 (bodyQ Try.prog Try.f61 R) (frOf #[t0, t1]) w).mp h)

def S63L1 (t0 t1 t7 t23 : Value) (next : Value → World → Prop) (R : Ending → World → Prop) (w : World) : Prop :=
  Loop2 t23 (.int .i64 0) w fun _ t8 t9 w next_2 =>
    ln1 t1 fun t26 =>
    binQ Try.prog w .lss 3 false t9 t26 fun t27 =>
    gd t27 true (fun k => k t8 w) w fun t29 w =>
    pickQ t27 t29 (.bool false) fun t30 =>
    condW t30 (
      Drew w fun w =>
      iaS 1 t0 t7 fun t35 =>
      ld1 w t35 fun t36 =>
      binQ Try.prog w .add 3 true t9 (.int .i64 1) fun t38 =>
      iaS 1 t36 t38 fun t39 =>
      ld1 w t39 fun t40 =>
      iaS 1 t1 t9 fun t43 =>
      ld1 w t43 fun t44 =>
      binQ Try.prog w .eql 3 false t40 t44 fun t45 =>
      binQ Try.prog w .add 3 true t9 (.int .i64 1) fun t32 =>
      next_2 t45 t32 w
    ) (
      condW t8 (
        R (.returned (.bool true)) w
      ) (
        binQ Try.prog w .add 3 true t7 (.int .i64 1) fun t15 =>
        next t15 w
      )
    )

def S63L0 (t0 t1 t2 : Value) (R : Ending → World → Prop) (w : World) : Prop :=
  Loop1 (.int .i64 0) w fun _ t7 w next =>
    ln1 t0 fun t12 =>
    binQ Try.prog w .lss 3 false t7 t12 fun t13 =>
    condW t13 (
      iaS 1 t0 t7 fun t18 =>
      ld1 w t18 fun t19 =>
      iaS 1 t19 (.int .i64 0) fun t20 =>
      ld1 w t20 fun t21 =>
      binQ Try.prog w .lss 3 false t21 t2 fun t23 =>
      S63L1 t0 t1 t7 t23 next R w
    ) (
      R (.returned (.bool false)) w
    )



def S63 (t0 t1 t2 : Value) (w : World) (R : Ending → World → Prop) : Prop :=
  S63L0 t0 t1 t2 R w

def A63 : Ann where
  live := fun
    | 0 => [7]
    | 2 => [8, 9]
    | _ => []
  wr := fun
    | 0 => fun i => (Nat.ble 6 i && Nat.ble i 46)
    | 2 => fun i => (Nat.ble 8 i && Nat.ble i 9) || (Nat.ble 24 i && Nat.ble i 45)
    | _ => fun _ => false
  sched := fun
    | 8 => (.take 0 (.take 1 (.take 2 (.take 3 (.take 4 (.take 5 (.take 6 (.take 7 (.take 8 (.take 9 (.take 10 (.take 11 (.take 12 (.take 13 .done))))))))))))))
    | _ => .done

set_option maxRecDepth 100000 in
theorem ok63 : (codeOk Try.f63.ntmps A63 (Try.f63.body.getD .skip) 0 && Nat.ble 3 Try.f63.ntmps) = true := by kernel_rfl
set_option maxRecDepth 100000 in
theorem lift63 {t0 t1 t2 : Value} {w : World} {R : Ending → World → Prop} (h : S63 t0 t1 t2 w R) : Calls Try.prog 63 #[t0, t1, t2] w R :=
  calls_of_cw (fn := Try.f63) (c := Try.f63.body.getD .skip) A63 mixes Try.func63 (by kernel_rfl) ok63
    ((by kernel_rfl : (S63 t0 t1 t2 w R) = cw Try.prog A63 (Try.f63.body.getD .skip) 0 (bodyQ Try.prog Try.f63 R) (frOf #[t0, t1, t2]) w).mp h)

def S64 (t0 t1 : Value) (w : World) (R : Ending → World → Prop) : Prop :=
  callW Try.prog (.func (.func 95) #[] #[]) [t0, (.slice none 0 0), t1, (.slice none 0 0), (.int .i64 255)] w fun t7 w =>
  R (.returned t7) w

def A64 : Ann where
  live := fun _ => []
  wr := fun _ _ => false
  sched := fun _ => .done

set_option maxRecDepth 100000 in
theorem ok64 : (codeOk Try.f64.ntmps A64 (Try.f64.body.getD .skip) 0 && Nat.ble 2 Try.f64.ntmps) = true := by kernel_rfl
set_option maxRecDepth 100000 in
theorem lift64 {t0 t1 : Value} {w : World} {R : Ending → World → Prop} (h : S64 t0 t1 w R) : Calls Try.prog 64 #[t0, t1] w R :=
  calls_of_cw (fn := Try.f64) (c := Try.f64.body.getD .skip) A64 mixes Try.func64 (by kernel_rfl) ok64
    ((by kernel_rfl : (S64 t0 t1 w R) = cw Try.prog A64 (Try.f64.body.getD .skip) 0 (bodyQ Try.prog Try.f64 R) (frOf #[t0, t1]) w).mp h)

def S95L1 (t0 t1 t2 t3 t4 t12 t13 t18 : Value) (next : Value → Value → World → Prop) (w : World) : Prop :=
  Loop2 (.int .i64 0) (.int .i64 0) w fun _ t14 t15 w next_2 =>
    ln1 t0 fun t32 =>
    binQ Try.prog w .lss 3 false t15 t32 fun t33 =>
    condW t33 (
      Drew w fun w =>
      iaS 4 t0 t15 fun t38 =>
      fa1 t38 2 fun t39 =>
      ld1 w t39 fun t40 =>
      binQ Try.prog w .eql 3 false t40 t13 fun t42 =>
      gdQ t42 true (fun k => k t4) fun t44 =>
      gdQ t42 true (fun k => k t0) fun t45 =>
      gdQ t42 true (fun k => k t15) fun t46 =>
      gdQ t42 true (fun k => iaS 4 t45 t46 k) fun t47 =>
      gdQ t42 true (fun k => fa1 t47 3 k) fun t48 =>
      gdQ t42 true (fun k => ld1 w t48 k) fun t49 =>
      gdQ t42 true (fun k => binQ Try.prog w .shr 3 false t44 t49 k) fun t50 =>
      gdQ t42 true (fun k => binQ Try.prog w .rem 3 true t50 (.int .i64 2) k) fun t51 =>
      gdQ t42 true (fun k => binQ Try.prog w .eql 3 true t51 (.int .i64 1) k) fun t52 =>
      pickQ t42 t52 (.bool false) fun t53 =>
      gdQ t53 true (fun k => k t1) fun t55 =>
      gdQ t53 true (fun k => binQ Try.prog w .eql 30 true t55 (.slice none 0 0) k) fun t56 =>
      gdQ t53 true (fun k => k t56) fun t57 =>
      gdQ t57 false (fun k => k t0) fun t58 =>
      gdQ t57 false (fun k => k t15) fun t59 =>
      gdQ t57 false (fun k => iaS 4 t58 t59 k) fun t60 =>
      gdQ t57 false (fun k => fa1 t60 0 k) fun t61 =>
      gdQ t57 false (fun k => ld1 w t61 k) fun t62 =>
      gdQ t57 false (fun k => k t1) fun t63 =>
      gdQ t57 false (fun k => k t18) fun t64 =>
      gdQ t57 false (fun k => iaS 1 t63 t64 k) fun t65 =>
      gdQ t57 false (fun k => ld1 w t65 k) fun t66 =>
      gdQ t57 false (fun k => binQ Try.prog w .eql 3 false t62 t66 k) fun t67 =>
      gdQ t53 true (fun k => pickQ t57 (.bool true) t67 k) fun t68 =>
      pickQ t53 t68 (.bool false) fun t69 =>
      Join (fun (k_2 : Value → World → Prop) =>
        condW t69 (
          iaS 4 t0 t15 fun t73 =>
          fa1 t73 1 fun t74 =>
          ld1 w t74 fun t75 =>
          binQ Try.prog w .shl 3 true (.int .i64 1) t75 fun t76 =>
          binQ Try.prog w .or 3 false t14 t76 fun t77 =>
          k_2 t77 w
        ) (
          k_2 t14 w
        )
      ) fun t14_2 w =>
      binQ Try.prog w .add 3 true t15 (.int .i64 1) fun t35_2 =>
      next_2 t14_2 t35_2 w
    ) (
      binQ Try.prog w .neq 3 true t14 (.int .i64 0) fun t79 =>
      Join (fun (k_3 : Value → World → Prop) =>
        condW t79 (
          semW Try.prog (apS [30, 30] 30 [(.slice none 0 0), t3]) w fun t82 w =>
          bsW Try.prog 30 1 [(0, t13)] w fun t89 w =>
          semW Try.prog (apS [30, 30] 30 [t82, t89]) w fun t90 w =>
          callW Try.prog (.func (.func 95) #[] #[]) [t0, t1, t2, t90, t14] w fun t92 w =>
          semW Try.prog (apS [23, 23] 23 [t12, t92]) w fun t93 w =>
          k_3 t93 w
        ) (
          k_3 t12 w
        )
      ) fun t12_2 w =>
      binQ Try.prog w .add 3 true t13 (.int .i64 1) fun t29_2 =>
      next t12_2 t29_2 w
    )

def S95L0 (t0 t1 t2 t3 t4 t18 : Value) (R : Ending → World → Prop) (w : World) : Prop :=
  Loop2 (.slice none 0 0) (.int .i64 0) w fun _ t12 t13 w next =>
    binQ Try.prog w .leq 3 true t13 (.int .i64 7) fun t27 =>
    condW t27 (
      S95L1 t0 t1 t2 t3 t4 t12 t13 t18 next w
    ) (
      R (.returned t12) w
    )

def S95 (t0 t1 t2 t3 t4 : Value) (w : World) (R : Ending → World → Prop) : Prop :=
  ln1 t3 fun t18 =>
  binQ Try.prog w .eql 3 false t18 t2 fun t21 =>
  condW t21 (
    bsW Try.prog 30 0 [] w fun t22 w =>
    semW Try.prog (apS [30, 30] 30 [t22, t3]) w fun t24 w =>
    bsW Try.prog 23 1 [(0, t24)] w fun t25 w =>
    R (.returned t25) w
  ) (
    S95L0 t0 t1 t2 t3 t4 t18 R w
  )

def A95 : Ann where
  live := fun
    | 0 => [12, 13]
    | 2 => [14, 15]
    | _ => []
  wr := fun
    | 0 => fun i => (Nat.ble 12 i && Nat.ble i 16) || (Nat.ble 26 i && Nat.ble i 93)
    | 2 => fun i => (Nat.ble 14 i && Nat.ble i 15) || (Nat.ble 30 i && Nat.ble i 77)
    | _ => fun _ => false
  sched := fun
    | 12 => (.take 0 (.take 1 (.take 2 (.take 3 (.take 4 (.take 5 (.take 6 (.take 7 (.take 8 (.take 9 (.take 10 (.take 11 (.take 12 (.take 13 (.take 14 (.take 15 (.take 16 (.take 17 (.take 18 (.take 19 (.take 20 (.take 21 (.take 22 (.take 23 (.take 24 (.take 25 (.take 26 (.take 27 (.take 28 (.take 29 (.take 30 (.take 31 (.take 32 (.take 33 .done))))))))))))))))))))))))))))))))))
    | _ => .done

set_option maxRecDepth 100000 in
theorem ok95 : (codeOk Try.f95.ntmps A95 (Try.f95.body.getD .skip) 0 && Nat.ble 5 Try.f95.ntmps) = true := by kernel_rfl
set_option maxRecDepth 100000 in
theorem lift95 {t0 t1 t2 t3 t4 : Value} {w : World} {R : Ending → World → Prop} (h : S95 t0 t1 t2 t3 t4 w R) : Calls Try.prog 95 #[t0, t1, t2, t3, t4] w R :=
  calls_of_cw (fn := Try.f95) (c := Try.f95.body.getD .skip) A95 mixes Try.func95 (by kernel_rfl) ok95
    ((by kernel_rfl : (S95 t0 t1 t2 t3 t4 w R) = cw Try.prog A95 (Try.f95.body.getD .skip) 0 (bodyQ Try.prog Try.f95 R) (frOf #[t0, t1, t2, t3, t4]) w).mp h)

theorem fok20 : fnOk Try.prog 20 = true := by kernel_rfl
theorem fok48 : fnOk Try.prog 48 = true := by kernel_rfl
theorem fok61 : fnOk Try.prog 61 = true := by kernel_rfl
theorem fok63 : fnOk Try.prog 63 = true := by kernel_rfl
theorem fok64 : fnOk Try.prog 64 = true := by kernel_rfl
theorem fok95 : fnOk Try.prog 95 = true := by kernel_rfl
end Go.Proofs.Ytgalbokmgffhkaa

/- No lists. -/
namespace Go.Proofs.Ytgalbokmgffhkaa
open Go.Lf Go.RowKit Go.Wg

theorem IRows.nil {base : Nat} {w : World} : IRows base w nilS [] := ⟨[], RecAt.nil, rfl, by simp⟩

end Go.Proofs.Ytgalbokmgffhkaa
