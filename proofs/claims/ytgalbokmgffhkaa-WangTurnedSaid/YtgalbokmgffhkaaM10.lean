/- Texts of my own, merged by program: D10 Sj J3. -/
import Derived.Test.YtgalbokmgffhkaaM09
import Derived.Test.YtgalbokmgffhkaaM06
import Derived.Test.YtgalbokmgffhkaaM03
import Derived.Test.YtgalbokmgffhkaaM07
import Derived.Test.YtgalbokmgffhkaaM08
set_option linter.all false
/- Contracts: Clone, numbers, sets; copies of integers. -/
namespace Go.Proofs.Ytgalbokmgffhkaa
open Go.Lf Go.RowKit Go.Wg

theorem bs30_0 (w : World) (K : Value → World → Prop) : bsW Try.prog 30 0 [] w K = K (.slice (some ⟨w.heap.size, 0, none⟩) 0 0) (w.alloc (.cells #[] 3)) := by kernel_rfl

theorem r_nilT {w : World} {K : Value → Prop} (h : K (.bool true)) : binQ Try.prog w .eql 30 true nilS nilS K := ⟨.bool true, fun w' _ => by kernel_rfl, h⟩
theorem r_nilF {w : World} {a : Addr} {n c : Nat} {K : Value → Prop} (h : K (.bool false)) : binQ Try.prog w .eql 30 true (.slice (some a) n c) nilS K := ⟨.bool false, fun w' _ => by kernel_rfl, h⟩

set_option maxRecDepth 100000 in
/-- append([]int{}, l...): a copy. -/
theorem r_copyI {w : World} {v : Value} {l : List Int} {K : Value → World → Prop} (hr : RdInts w v l) (hl : l.length ≤ 1000000)
    (hk : ∀ v' w', IntsAt w.heap.size w' v' l → Kp w w' → v' ≠ nilS → K v' w') :
    bsW Try.prog 30 0 [] w fun s w => semW Try.prog (apS [30, 30] 30 [s, v]) w K := by
  rw [bs30_0]
  have hk1 : Kp w (w.alloc (.cells #[] 3)) := below_alloc _
  have hown : (w.alloc (.cells #[] 3)).ownsRow w.heap.size 3 1 (.slice (some ⟨w.heap.size, 0, none⟩) 0 0) 0 [] := ⟨rfl, .inr ⟨w.heap.size, 0, #[], rfl, Nat.le_refl _, heap_alloc_new w _, Nat.le_refl _, by unfold maxLen; omega, rfl, rfl⟩⟩
  obtain ⟨a, cap, rfl, _, hh⟩ := hr.below hk1
  have hsz : w.heap.size ≤ (w.alloc (.cells #[] 3)).heap.size := hk1.size
  cases l with
  | nil => exact r_ap0 slt30 hown (hk _ _ hown hk1 (by intro e; cases e))
  | cons x l =>
    obtain ⟨b, off, rfl, hc⟩ := hh (by simp)
    refine r_ap (xs := []) (news := intCells (x :: l)) slt30 hown (by simp [intCells]) (fun j u hj => ?_) intCells_one (by simp at hl ⊢; omega) (by omega) hsz fun v' w' ho hg hn => ?_
    · have hlt : j < (x :: l).length := by
        have := (List.getElem?_eq_some_iff.1 hj).1
        simpa [intCells] using this
      rw [r_addr, hc j hlt]
      rw [← hj, intCells, List.getElem?_map, List.getElem?_eq_getElem hlt]
      rw [getD_lt _ _ _ hlt]; rfl
    · refine hk _ _ ?_ (Kp.of_chg hk1 (Chg.of_grown (S := fun k => k = w.heap.size) hg fun k e => by cases e; rfl) fun i e => by omega) fun e => ?_
      · have e2 : recCells iC (x :: l) = intCells (x :: l) := by rw [rec_ints]; rfl
        unfold IntsAt RecAt
        rw [e2]
        simpa using ho
      · have := (hn.1 e).2
        simp at this

set_option maxRecDepth 100000 in
/-- slices.Clone at integers. -/
theorem clone_calls {v : Value} {l : List Int} (w : World) (hr : RdInts w v l) (hl : l.length ≤ 1000000) : Calls Try.prog 79 #[v] w fun e w' => ∃ v', e = .returned v' ∧ IntsAt w.heap.size w' v' l ∧ Kp w w' := by
  have hr' := hr
  obtain ⟨a, cap, rfl, h1, hh⟩ := hr
  refine lift79 ?_
  unfold S79
  cases a with
  | some p =>
    refine r_nilF ?_
    simp only [r_ln, r_pick, r_pickT, r_pickF, r_condT, r_condF, r_gdTT, r_gdFF, r_gdTF, r_gdFT, r_gqTT, r_gqFF, r_gqTF, r_gqFT, r_not, r_lss, r_leq, r_gtr, r_geq, r_eql, r_neq, r_add, r_sub, r_min2, r_max2, r_min3, r_max3, r_fa, r_iaS, r_iaA, r_ex2a, r_ex2b, r_ex3a, r_ex3b, r_ex3c, r_nc, r_keepE, Nat.zero_add, Nat.add_zero, Nat.mul_one, Int.toNat_natCast, toNat_sub1, toNat_add1, decide_true, decide_false, Bool.not_true, Bool.not_false, if_true, if_false, Bool.false_eq_true, reduceCtorEq]
    exact r_copyI hr' hl fun v' w' ho hk _ => ⟨v', rfl, ho, hk⟩
  | none =>
    have e0 : l.length = 0 := by
      by_cases h : 0 < l.length
      · obtain ⟨b, off, e, _⟩ := hh h
        cases e
      · omega
    have el : l = [] := List.length_eq_zero_iff.1 e0
    subst el
    have hnil : binQ Try.prog w .eql 30 true (.slice none ([] : List Int).length cap) (.slice none 0 0) = fun K => binQ Try.prog w .eql 30 true (.slice none 0 cap) nilS K := rfl
    rw [hnil]
    refine ⟨.bool true, fun w' _ => by kernel_rfl, ?_⟩
    simp only [r_ln, r_pick, r_pickT, r_pickF, r_condT, r_condF, r_gdTT, r_gdFF, r_gdTF, r_gdFT, r_gqTT, r_gqFF, r_gqTF, r_gqFT, r_not, r_lss, r_leq, r_gtr, r_geq, r_eql, r_neq, r_add, r_sub, r_min2, r_max2, r_min3, r_max3, r_fa, r_iaS, r_iaA, r_ex2a, r_ex2b, r_ex3a, r_ex3b, r_ex3c, r_nc, r_keepE, Nat.zero_add, Nat.add_zero, Nat.mul_one, Int.toNat_natCast, toNat_sub1, toNat_add1, decide_true, decide_false, Bool.not_true, Bool.not_false, if_true, if_false, Bool.false_eq_true, reduceCtorEq]
    exact ⟨_, rfl, RecAt.nil, Kp.refl _⟩

set_option maxRecDepth 100000 in
/-- numbers: the same numbers? -/
theorem numbers_calls {va vb : Value} {la lb : List Int} (w : World) (ha : RdInts w va la) (hb : RdInts w vb lb) : Calls Try.prog 43 #[va, vb] w fun e w' => e = .returned (.bool (decide (la = lb))) ∧ Kp w w' := by
  obtain ⟨aa, ca, rfl, ha1, _⟩ := ha.len
  obtain ⟨ab, cb, rfl, hb1, _⟩ := hb.len
  refine lift43 ?_
  unfold S43
  by_cases hlen : (la.length : Int) = (lb.length : Int)
  case neg =>
    simp (disch := omega) only [r_ln, r_pick, r_pickT, r_pickF, r_condT, r_condF, r_gdTT, r_gdFF, r_gdTF, r_gdFT, r_gqTT, r_gqFF, r_gqTF, r_gqFT, r_not, r_lss, r_leq, r_gtr, r_geq, r_eql, r_neq, r_add, r_sub, r_min2, r_max2, r_min3, r_max3, r_fa, r_iaS, r_iaA, r_ex2a, r_ex2b, r_ex3a, r_ex3b, r_ex3c, r_nc, r_keepE, Nat.zero_add, Nat.add_zero, Nat.mul_one, Int.toNat_natCast, toNat_sub1, toNat_add1, decide_true, decide_false, Bool.not_true, Bool.not_false, if_true, if_false, Bool.false_eq_true, reduceCtorEq, hlen]
    exact ⟨ret_bool (decide_eq_false (fun e => hlen (by rw [e]))).symm, Kp.refl _⟩
  simp (disch := omega) only [r_ln, r_pick, r_pickT, r_pickF, r_condT, r_condF, r_gdTT, r_gdFF, r_gdTF, r_gdFT, r_gqTT, r_gqFF, r_gqTF, r_gqFT, r_not, r_lss, r_leq, r_gtr, r_geq, r_eql, r_neq, r_add, r_sub, r_min2, r_max2, r_min3, r_max3, r_fa, r_iaS, r_iaA, r_ex2a, r_ex2b, r_ex3a, r_ex3b, r_ex3c, r_nc, r_keepE, Nat.zero_add, Nat.add_zero, Nat.mul_one, Int.toNat_natCast, toNat_sub1, toNat_add1, decide_true, decide_false, Bool.not_true, Bool.not_false, if_true, if_false, Bool.false_eq_true, reduceCtorEq, decide_eq_true hlen]
  refine ⟨fun t5 wr => ∃ i : Nat, i ≤ la.length ∧ t5 = .int .i64 i ∧ la.take i = lb.take i ∧ Kp w wr, fun t5 _ => la.length - (intOf t5).toNat, ⟨0, by omega, rfl, by simp, Kp.refl _⟩, ?_⟩
  rintro _ _ wr ⟨i, hi, rfl, he, hk⟩
  by_cases hlt : i < la.length
  case neg =>
    have hlt' : ¬ (i : Int) < (la.length : Int) := by omega
    rw [List.take_of_length_le (by omega), List.take_of_length_le (by omega)] at he
    simp (disch := omega) only [r_ln, r_pick, r_pickT, r_pickF, r_condT, r_condF, r_gdTT, r_gdFF, r_gdTF, r_gdFT, r_gqTT, r_gqFF, r_gqTF, r_gqFT, r_not, r_lss, r_leq, r_gtr, r_geq, r_eql, r_neq, r_add, r_sub, r_min2, r_max2, r_min3, r_max3, r_fa, r_iaS, r_iaA, r_ex2a, r_ex2b, r_ex3a, r_ex3b, r_ex3c, r_nc, r_keepE, Nat.zero_add, Nat.add_zero, Nat.mul_one, Int.toNat_natCast, toNat_sub1, toNat_add1, decide_true, decide_false, Bool.not_true, Bool.not_false, if_true, if_false, Bool.false_eq_true, reduceCtorEq, hlt']
    exact ⟨ret_bool (decide_eq_true he).symm, hk⟩
  have hlt' : (i : Int) < (la.length : Int) := by omega
  have hltb : i < lb.length := by omega
  simp (disch := omega) only [r_ln, r_pick, r_pickT, r_pickF, r_condT, r_condF, r_gdTT, r_gdFF, r_gdTF, r_gdFT, r_gqTT, r_gqFF, r_gqTF, r_gqFT, r_not, r_lss, r_leq, r_gtr, r_geq, r_eql, r_neq, r_add, r_sub, r_min2, r_max2, r_min3, r_max3, r_fa, r_iaS, r_iaA, r_ex2a, r_ex2b, r_ex3a, r_ex3b, r_ex3c, r_nc, r_keepE, Nat.zero_add, Nat.add_zero, Nat.mul_one, Int.toNat_natCast, toNat_sub1, toNat_add1, decide_true, decide_false, Bool.not_true, Bool.not_false, if_true, if_false, Bool.false_eq_true, reduceCtorEq, decide_eq_true hlt']
  refine r_drew fun w2 k2 _ => ?_
  have k02 := Kp.trans hk k2
  obtain ⟨b1, o1, c1, e1, hc1⟩ := (ha.below k02).at hlt
  obtain ⟨b2, o2, c2, e2, hc2⟩ := (hb.below k02).at hltb
  cases e1
  cases e2
  have hi' : (i : Int).toNat = i := by omega
  simp (disch := omega) only [r_ln, r_pick, r_pickT, r_pickF, r_condT, r_condF, r_gdTT, r_gdFF, r_gdTF, r_gdFT, r_gqTT, r_gqFF, r_gqTF, r_gqFT, r_not, r_lss, r_leq, r_gtr, r_geq, r_eql, r_neq, r_add, r_sub, r_min2, r_max2, r_min3, r_max3, r_fa, r_iaS, r_iaA, r_ex2a, r_ex2b, r_ex3a, r_ex3b, r_ex3c, r_nc, r_keepE, Nat.zero_add, Nat.add_zero, Nat.mul_one, Int.toNat_natCast, toNat_sub1, toNat_add1, decide_true, decide_false, Bool.not_true, Bool.not_false, if_true, if_false, Bool.false_eq_true, reduceCtorEq, hi', r_ld hc1, r_ld hc2]
  rw [getD_lt _ _ _ hlt, getD_lt _ _ _ hltb]
  by_cases hx : la[i] = lb[i]
  · simp (disch := omega) only [r_ln, r_pick, r_pickT, r_pickF, r_condT, r_condF, r_gdTT, r_gdFF, r_gdTF, r_gdFT, r_gqTT, r_gqFF, r_gqTF, r_gqFT, r_not, r_lss, r_leq, r_gtr, r_geq, r_eql, r_neq, r_add, r_sub, r_min2, r_max2, r_min3, r_max3, r_fa, r_iaS, r_iaA, r_ex2a, r_ex2b, r_ex3a, r_ex3b, r_ex3c, r_nc, r_keepE, Nat.zero_add, Nat.add_zero, Nat.mul_one, Int.toNat_natCast, toNat_sub1, toNat_add1, decide_true, decide_false, Bool.not_true, Bool.not_false, if_true, if_false, Bool.false_eq_true, reduceCtorEq, decide_eq_true hx]
    refine ⟨⟨i + 1, by omega, by go_num, ?_, k02⟩, by simp only [intOf]; omega⟩
    rw [take_succ' _ _ hlt, take_succ' _ _ hltb, he, hx]
  · simp (disch := omega) only [r_ln, r_pick, r_pickT, r_pickF, r_condT, r_condF, r_gdTT, r_gdFF, r_gdTF, r_gdFT, r_gqTT, r_gqFF, r_gqTF, r_gqFT, r_not, r_lss, r_leq, r_gtr, r_geq, r_eql, r_neq, r_add, r_sub, r_min2, r_max2, r_min3, r_max3, r_fa, r_iaS, r_iaA, r_ex2a, r_ex2b, r_ex3a, r_ex3b, r_ex3c, r_nc, r_keepE, Nat.zero_add, Nat.add_zero, Nat.mul_one, Int.toNat_natCast, toNat_sub1, toNat_add1, decide_true, decide_false, Bool.not_true, Bool.not_false, if_true, if_false, Bool.false_eq_true, reduceCtorEq, hx]
    exact ⟨ret_bool (decide_eq_false (fun e => hx (by subst e; rfl))).symm, k02⟩

set_option maxRecDepth 100000 in
/-- sets: the same tiles? -/
theorem sets_calls {va vb : Value} {la lb : List Tile} (w : World) (ha : Rd 4 tlC w va la) (hb : Rd 4 tlC w vb lb) (hl : la.length ≤ 1000000) : Calls Try.prog 30 #[va, vb] w fun e w' => e = .returned (.bool (decide (la = lb))) ∧ Kp w w' := by
  obtain ⟨aa, ca, rfl, _⟩ := ha.len
  obtain ⟨ab, cb, rfl, _⟩ := hb.len
  refine lift30 ?_
  unfold S30
  by_cases hlen : (la.length : Int) = (lb.length : Int)
  case neg =>
    simp (disch := omega) only [r_ln, r_pick, r_pickT, r_pickF, r_condT, r_condF, r_gdTT, r_gdFF, r_gdTF, r_gdFT, r_gqTT, r_gqFF, r_gqTF, r_gqFT, r_not, r_lss, r_leq, r_gtr, r_geq, r_eql, r_neq, r_add, r_sub, r_min2, r_max2, r_min3, r_max3, r_fa, r_iaS, r_iaA, r_ex2a, r_ex2b, r_ex3a, r_ex3b, r_ex3c, r_nc, r_keepE, Nat.zero_add, Nat.add_zero, Nat.mul_one, Int.toNat_natCast, toNat_sub1, toNat_add1, decide_true, decide_false, Bool.not_true, Bool.not_false, if_true, if_false, Bool.false_eq_true, reduceCtorEq, hlen]
    exact ⟨ret_bool (decide_eq_false (fun e => hlen (by rw [e]))).symm, Kp.refl _⟩
  simp (disch := omega) only [r_ln, r_pick, r_pickT, r_pickF, r_condT, r_condF, r_gdTT, r_gdFF, r_gdTF, r_gdFT, r_gqTT, r_gqFF, r_gqTF, r_gqFT, r_not, r_lss, r_leq, r_gtr, r_geq, r_eql, r_neq, r_add, r_sub, r_min2, r_max2, r_min3, r_max3, r_fa, r_iaS, r_iaA, r_ex2a, r_ex2b, r_ex3a, r_ex3b, r_ex3c, r_nc, r_keepE, Nat.zero_add, Nat.add_zero, Nat.mul_one, Int.toNat_natCast, toNat_sub1, toNat_add1, decide_true, decide_false, Bool.not_true, Bool.not_false, if_true, if_false, Bool.false_eq_true, reduceCtorEq, decide_eq_true hlen]
  refine ⟨fun t5 wr => ∃ i : Nat, i ≤ la.length ∧ t5 = .int .i64 i ∧ la.take i = lb.take i ∧ Kp w wr, fun t5 _ => la.length - (intOf t5).toNat, ⟨0, by omega, rfl, by simp, Kp.refl _⟩, ?_⟩
  rintro _ _ wr ⟨i, hi, rfl, he, hk⟩
  by_cases hlt : i < la.length
  case neg =>
    have hlt' : ¬ (i : Int) < (la.length : Int) := by omega
    rw [List.take_of_length_le (by omega), List.take_of_length_le (by omega)] at he
    simp (disch := omega) only [r_ln, r_pick, r_pickT, r_pickF, r_condT, r_condF, r_gdTT, r_gdFF, r_gdTF, r_gdFT, r_gqTT, r_gqFF, r_gqTF, r_gqFT, r_not, r_lss, r_leq, r_gtr, r_geq, r_eql, r_neq, r_add, r_sub, r_min2, r_max2, r_min3, r_max3, r_fa, r_iaS, r_iaA, r_ex2a, r_ex2b, r_ex3a, r_ex3b, r_ex3c, r_nc, r_keepE, Nat.zero_add, Nat.add_zero, Nat.mul_one, Int.toNat_natCast, toNat_sub1, toNat_add1, decide_true, decide_false, Bool.not_true, Bool.not_false, if_true, if_false, Bool.false_eq_true, reduceCtorEq, hlt']
    exact ⟨ret_bool (decide_eq_true he).symm, hk⟩
  have hlt' : (i : Int) < (la.length : Int) := by omega
  have hltb : i < lb.length := by omega
  simp (disch := omega) only [r_ln, r_pick, r_pickT, r_pickF, r_condT, r_condF, r_gdTT, r_gdFF, r_gdTF, r_gdFT, r_gqTT, r_gqFF, r_gqTF, r_gqFT, r_not, r_lss, r_leq, r_gtr, r_geq, r_eql, r_neq, r_add, r_sub, r_min2, r_max2, r_min3, r_max3, r_fa, r_iaS, r_iaA, r_ex2a, r_ex2b, r_ex3a, r_ex3b, r_ex3c, r_nc, r_keepE, Nat.zero_add, Nat.add_zero, Nat.mul_one, Int.toNat_natCast, toNat_sub1, toNat_add1, decide_true, decide_false, Bool.not_true, Bool.not_false, if_true, if_false, Bool.false_eq_true, reduceCtorEq, decide_eq_true hlt']
  refine r_drew fun w2 k2 _ => ?_
  have k02 := Kp.trans hk k2
  obtain ⟨b1, o1, c1, e1, _, hc1⟩ := (ha.kp k02).at (List.getElem?_eq_getElem hlt)
  obtain ⟨b2, o2, c2, e2, _, hc2⟩ := (hb.kp k02).at (List.getElem?_eq_getElem hltb)
  cases e1
  cases e2
  have hi' : (i : Int).toNat = i := by omega
  simp (disch := omega) only [r_ln, r_pick, r_pickT, r_pickF, r_condT, r_condF, r_gdTT, r_gdFF, r_gdTF, r_gdFT, r_gqTT, r_gqFF, r_gqTF, r_gqFT, r_not, r_lss, r_leq, r_gtr, r_geq, r_eql, r_neq, r_add, r_sub, r_min2, r_max2, r_min3, r_max3, r_fa, r_iaS, r_iaA, r_ex2a, r_ex2b, r_ex3a, r_ex3b, r_ex3c, r_nc, r_keepE, Nat.zero_add, Nat.add_zero, Nat.mul_one, Int.toNat_natCast, toNat_sub1, toNat_add1, decide_true, decide_false, Bool.not_true, Bool.not_false, if_true, if_false, Bool.false_eq_true, reduceCtorEq, hi', r_ldCells (tlC_len _) hc1, r_ldCells (tlC_len _) hc2]
  have ev : ∀ t : Tile, Value.agg (tlC t).toArray = tlV t := fun t => rfl
  rw [ev, ev, r_ne32]
  by_cases hx : la[i] = lb[i]
  · simp (disch := omega) only [r_ln, r_pick, r_pickT, r_pickF, r_condT, r_condF, r_gdTT, r_gdFF, r_gdTF, r_gdFT, r_gqTT, r_gqFF, r_gqTF, r_gqFT, r_not, r_lss, r_leq, r_gtr, r_geq, r_eql, r_neq, r_add, r_sub, r_min2, r_max2, r_min3, r_max3, r_fa, r_iaS, r_iaA, r_ex2a, r_ex2b, r_ex3a, r_ex3b, r_ex3c, r_nc, r_keepE, Nat.zero_add, Nat.add_zero, Nat.mul_one, Int.toNat_natCast, toNat_sub1, toNat_add1, decide_true, decide_false, Bool.not_true, Bool.not_false, if_true, if_false, Bool.false_eq_true, reduceCtorEq, decide_eq_true hx]
    refine ⟨⟨i + 1, by omega, by go_num, ?_, k02⟩, by simp only [intOf]; omega⟩
    rw [take_succ' _ _ hlt, take_succ' _ _ hltb, he, hx]
  · simp (disch := omega) only [r_ln, r_pick, r_pickT, r_pickF, r_condT, r_condF, r_gdTT, r_gdFF, r_gdTF, r_gdFT, r_gqTT, r_gqFF, r_gqTF, r_gqFT, r_not, r_lss, r_leq, r_gtr, r_geq, r_eql, r_neq, r_add, r_sub, r_min2, r_max2, r_min3, r_max3, r_fa, r_iaS, r_iaA, r_ex2a, r_ex2b, r_ex3a, r_ex3b, r_ex3c, r_nc, r_keepE, Nat.zero_add, Nat.add_zero, Nat.mul_one, Int.toNat_natCast, toNat_sub1, toNat_add1, decide_true, decide_false, Bool.not_true, Bool.not_false, if_true, if_false, Bool.false_eq_true, reduceCtorEq, hx]
    exact ⟨ret_bool (decide_eq_false (fun e => hx (by subst e; rfl))).symm, k02⟩

end Go.Proofs.Ytgalbokmgffhkaa

/- Lifted texts, printed by program (gen.py): what each function's code asks. The ties are by the kernel. -/
namespace Go.Proofs.Ytgalbokmgffhkaa
open Go.Lf Go.RowKit

def S27L0 (t1 t10 t12 t13 t24 : Value) (R : Ending → World → Prop) (w : World) : Prop :=
  Loop2 (.slice none 0 0) t13 w fun _ t11 t13_2 w next =>
    ld1 w t13_2 fun t31 =>
    binQ Try.prog w .geq 3 true t31 (.int .i64 0) fun t32 =>
    condW t32 (
      callW Try.prog (.func (.func 77) #[] #[]) [t24, (.func (.func 78) #[] #[t12, t10, t13_2])] w fun t37 w =>
      binQ Try.prog w .lss 3 true t37 (.int .i64 0) fun t39 =>
      condW t39 (
        R (.returned (.tuple #[(.slice none 0 0), (.int .i64 10)])) w
      ) (
        Drew w fun w =>
        ∃ X : Nat → Prop,
        takeX X w (fun w k => k t11) fun t40 =>
        takeX X w (fun w k => k t24) fun t41 =>
        takeX X w (fun w k => k t37) fun t42 =>
        takeX X w (fun w k => iaS 7 t41 t42 k) fun t43 =>
        takeX X w (fun w k => fa1 t43 0 k) fun t44 =>
        takeX X w (fun w k => k t1) fun t45 =>
        takeX X w (fun w k => slA 4 1 t44 none (some t45) k) fun t46 =>
        takeX X w (fun w k => k t24) fun t50 =>
        takeX X w (fun w k => k t37) fun t51 =>
        takeX X w (fun w k => iaS 7 t50 t51 k) fun t52 =>
        takeX X w (fun w k => fa1 t52 5 k) fun t53 =>
        takeX X w (fun w k => ld1 w t53 k) fun t54 =>
        callW Try.prog (.func (.func 79) #[] #[]) [t46] w <| keepX X w fun t47 w =>
        bsW Try.prog 23 1 [(0, t47)] w <| keepX X w fun t48 w =>
        semW Try.prog (apS [23, 23] 23 [t40, t48]) w <| keepX X w fun t49 w =>
        takeX X w (fun w k => k t49) fun t11_2 =>
        stW Try.prog 3 t12 t54 w fun w =>
        ld1 w t13_2 fun t55 =>
        boxW 3 (.int .i64 0) w fun t13_3 w =>
        stW Try.prog 3 t13_3 t55 w fun w =>
        ld1 w t13_3 fun t33 =>
        binQ Try.prog w .sub 3 true t33 (.int .i64 1) fun t34 =>
        stW Try.prog 3 t13_3 t34 w fun w =>
        next t11_2 t13_3 w
      )
    ) (
      R (.returned (.tuple #[t11, (.int .i64 0)])) w
    )

def S27 (t0 t1 t2 : Value) (w : World) (R : Ending → World → Prop) : Prop :=
  callW Try.prog (.func (.func 53) #[] #[]) [t0, t1, t2] w fun t18 w =>
  binQ Try.prog w .neq 26 true t18 (.int .i64 0) fun t20 =>
  condW t20 (
    R (.returned (.tuple #[(.slice none 0 0), t18])) w
  ) (
    callW Try.prog (.func (.func 59) #[] #[]) [t0, t1] w fun t24 w =>
    callW Try.prog (.func (.func 76) #[] #[]) [t24, t1, t2] w fun t28 w =>
    boxW 88 (.slice none 0 0) w fun t10 w =>
    stW Try.prog 88 t10 t28 w fun w =>
    boxW 3 (.int .i64 0) w fun t12 w =>
    stW Try.prog 3 t12 (.int .i64 (-1)) w fun w =>
    binQ Try.prog w .sub 3 true t2 (.int .i64 1) fun t30 =>
    boxW 3 (.int .i64 0) w fun t13 w =>
    stW Try.prog 3 t13 t30 w fun w =>
    S27L0 t1 t10 t12 t13 t24 R w
  )

def A27 : Ann where
  live := fun
    | 0 => [11, 13]
    | _ => []
  wr := fun
    | 0 => fun i => (Nat.ble 6 i && Nat.ble i 7) || Nat.beq i 11 || (Nat.ble 13 i && Nat.ble i 14) || (Nat.ble 31 i && Nat.ble i 55)
    | _ => fun _ => false
  sched := fun
    | 14 => (.cls (.take 0 (.take 1 (.take 2 (.take 3 (.take 4 (.take 5 (.take 6 (.take 10 (.take 11 (.take 12 (.take 13 (.take 14 (.eff 7 (.eff 8 (.eff 9 (.take 15 (.bar 16 .done))))))))))))))))))
    | _ => .done

set_option maxRecDepth 100000 in
theorem ok27 : (codeOk Try.f27.ntmps A27 (Try.f27.body.getD .skip) 0 && Nat.ble 3 Try.f27.ntmps) = true := by kernel_rfl
set_option maxRecDepth 100000 in
theorem lift27 {t0 t1 t2 : Value} {w : World} {R : Ending → World → Prop} (h : S27 t0 t1 t2 w R) : Calls Try.prog 27 #[t0, t1, t2] w R :=
  calls_of_cw (fn := Try.f27) (c := Try.f27.body.getD .skip) A27 mixes Try.func27 (by kernel_rfl) ok27
    ((by kernel_rfl : (S27 t0 t1 t2 w R) = cw Try.prog A27 (Try.f27.body.getD .skip) 0 (bodyQ Try.prog Try.f27 R) (frOf #[t0, t1, t2]) w).mp h)

def S77L0 (t0 t1 t7 : Value) (R : Ending → World → Prop) (w : World) : Prop :=
  Loop1 (.int .i64 0) w fun _ t8 w next =>
    binQ Try.prog w .lss 3 false t8 t7 fun t9 =>
    condW t9 (
      iaS 7 t0 t8 fun t14 =>
      ldN 7 w t14 fun t15 =>
      callW Try.prog t1 [t15] w fun t16 w =>
      condW t16 (
        R (.returned t8) w
      ) (
        binQ Try.prog w .add 3 true t8 (.int .i64 1) fun t18 =>
        next t18 w
      )
    ) (
      R (.returned (.int .i64 (-1))) w
    )



def S77 (t0 t1 : Value) (w : World) (R : Ending → World → Prop) : Prop :=
  ln1 t0 fun t7 =>
  S77L0 t0 t1 t7 R w

def A77 : Ann where
  live := fun
    | 0 => [8]
    | _ => []
  wr := fun
    | 0 => fun i => (Nat.ble 4 i && Nat.ble i 5) || (Nat.ble 8 i && Nat.ble i 18)
    | _ => fun _ => false
  sched := fun _ => .done

set_option maxRecDepth 100000 in
theorem ok77 : (codeOk Try.f77.ntmps A77 (Try.f77.body.getD .skip) 0 && Nat.ble 2 Try.f77.ntmps) = true := by kernel_rfl
set_option maxRecDepth 100000 in
theorem lift77 {t0 t1 : Value} {w : World} {R : Ending → World → Prop} (h : S77 t0 t1 w R) : Calls Try.prog 77 #[t0, t1] w R :=
  calls_of_cw (fn := Try.f77) (c := Try.f77.body.getD .skip) A77 mixes Try.func77 (by kernel_rfl) ok77
    ((by kernel_rfl : (S77 t0 t1 w R) = cw Try.prog A77 (Try.f77.body.getD .skip) 0 (bodyQ Try.prog Try.f77 R) (frOf #[t0, t1]) w).mp h)

def S78 (t0 t1 t2 t3 : Value) (w : World) (R : Ending → World → Prop) : Prop :=
  boxW 78 t0 w fun t4 w =>
  Drew w fun w =>
  ld1 w t1 fun t6 =>
  binQ Try.prog w .lss 3 true t6 (.int .i64 0) fun t7 =>
  gdQ t7 false (fun k => fa1 t4 4 k) fun t9 =>
  gdQ t7 false (fun k => ld1 w t9 k) fun t10 =>
  gdQ t7 false (fun k => ld1 w t1 k) fun t11 =>
  gdQ t7 false (fun k => binQ Try.prog w .eql 3 false t10 t11 k) fun t12 =>
  pickQ t7 (.bool true) t12 fun t13 =>
  gdQ t13 true (fun k => ld1 w t2 k) fun t15 =>
  gdQ t13 true (fun k => ld1 w t3 k) fun t16 =>
  gdQ t13 true (fun k => iaS 1 t15 t16 k) fun t17 =>
  gdQ t13 true (fun k => ld1 w t17 k) fun t18 =>
  gdQ t13 true (fun k => fa1 t4 5 k) fun t19 =>
  gdQ t13 true (fun k => ld1 w t19 k) fun t20 =>
  gdQ t13 true (fun k => iaS 1 t18 t20 k) fun t21 =>
  gdQ t13 true (fun k => ld1 w t21 k) fun t22 =>
  pickQ t13 t22 (.bool false) fun t23 =>
  R (.returned t23) w

def A78 : Ann where
  live := fun _ => []
  wr := fun _ _ => false
  sched := fun
    | 1 => (.take 0 (.take 1 (.take 2 (.take 3 (.take 4 (.take 5 (.take 6 (.take 7 (.take 8 (.take 9 (.take 10 (.take 11 (.take 12 (.take 13 (.take 14 (.take 15 (.take 16 (.take 17 (.take 18 .done)))))))))))))))))))
    | _ => .done

set_option maxRecDepth 100000 in
theorem ok78 : (codeOk Try.f78.ntmps A78 (Try.f78.body.getD .skip) 0 && Nat.ble 4 Try.f78.ntmps) = true := by kernel_rfl
set_option maxRecDepth 100000 in
theorem lift78 {t0 t1 t2 t3 : Value} {w : World} {R : Ending → World → Prop} (h : S78 t0 t1 t2 t3 w R) : Calls Try.prog 78 #[t0, t1, t2, t3] w R :=
  calls_of_cw (fn := Try.f78) (c := Try.f78.body.getD .skip) A78 mixes Try.func78 (by kernel_rfl) ok78
    ((by kernel_rfl : (S78 t0 t1 t2 t3 w R) = cw Try.prog A78 (Try.f78.body.getD .skip) 0 (bodyQ Try.prog Try.f78 R) (frOf #[t0, t1, t2, t3]) w).mp h)

def S24 (t0 t1 : Value) (w : World) (R : Ending → World → Prop) : Prop :=
  callW Try.prog (.func (.func 70) #[] #[]) [t0] w fun t6 w =>
  ln1 t6 fun t7 =>
  callW Try.prog (.func (.func 69) #[] #[]) [t7, t1] w fun t9 w =>
  binQ Try.prog w .mul 3 true t9 (.int .i64 8) fun t10 =>
  R (.returned t10) w

def A24 : Ann where
  live := fun _ => []
  wr := fun _ _ => false
  sched := fun _ => .done

set_option maxRecDepth 100000 in
theorem ok24 : (codeOk Try.f24.ntmps A24 (Try.f24.body.getD .skip) 0 && Nat.ble 2 Try.f24.ntmps) = true := by kernel_rfl
set_option maxRecDepth 100000 in
theorem lift24 {t0 t1 : Value} {w : World} {R : Ending → World → Prop} (h : S24 t0 t1 w R) : Calls Try.prog 24 #[t0, t1] w R :=
  calls_of_cw (fn := Try.f24) (c := Try.f24.body.getD .skip) A24 mixes Try.func24 (by kernel_rfl) ok24
    ((by kernel_rfl : (S24 t0 t1 w R) = cw Try.prog A24 (Try.f24.body.getD .skip) 0 (bodyQ Try.prog Try.f24 R) (frOf #[t0, t1]) w).mp h)

def S26 (t0 t1 t2 : Value) (w : World) (R : Ending → World → Prop) : Prop :=
  callW Try.prog (.func (.func 23) #[] #[]) [t0, t1, t2] w fun t13 w =>
  binQ Try.prog w .neq 26 true t13 (.int .i64 0) fun t15 =>
  condW t15 (
    R (.returned (.tuple #[(.int .i64 0), t13])) w
  ) (
    callW Try.prog (.func (.func 75) #[] #[]) [t0, t1, t2] w fun t20 w =>
    iaS 1 t20 (.int .i64 0) fun t21 =>
    ld1 w t21 fun t22 =>
    iaS 1 t22 (.int .i64 0) fun t23 =>
    ld1 w t23 fun t24 =>
    binQ Try.prog w .gtr 3 true t24 (.int .i64 1099511627776) fun t26 =>
    condW t26 (
      R (.returned (.tuple #[(.int .i64 0), (.int .i64 8)])) w
    ) (
      R (.returned (.tuple #[t24, (.int .i64 0)])) w
    )
  )

def A26 : Ann where
  live := fun _ => []
  wr := fun _ _ => false
  sched := fun _ => .done

set_option maxRecDepth 100000 in
theorem ok26 : (codeOk Try.f26.ntmps A26 (Try.f26.body.getD .skip) 0 && Nat.ble 3 Try.f26.ntmps) = true := by kernel_rfl
set_option maxRecDepth 100000 in
theorem lift26 {t0 t1 t2 : Value} {w : World} {R : Ending → World → Prop} (h : S26 t0 t1 t2 w R) : Calls Try.prog 26 #[t0, t1, t2] w R :=
  calls_of_cw (fn := Try.f26) (c := Try.f26.body.getD .skip) A26 mixes Try.func26 (by kernel_rfl) ok26
    ((by kernel_rfl : (S26 t0 t1 t2 w R) = cw Try.prog A26 (Try.f26.body.getD .skip) 0 (bodyQ Try.prog Try.f26 R) (frOf #[t0, t1, t2]) w).mp h)

def S28L1 (t0 t1 t11 t13 t14 t27 t35 : Value) (k_3 : Value → Value → World → Prop) (w : World) : Prop :=
  Loop3 t11 t13 (.int .i64 0) w fun _ t11_3 t13_4 t15 w next_2 =>
    ln1 t0 fun t45 =>
    binQ Try.prog w .lss 3 false t15 t45 fun t46 =>
    condW t46 (
      iaS 4 t0 t15 fun t51 =>
      ldN 4 w t51 fun t52 =>
      callW Try.prog (.func (.func 80) #[] #[]) [t52, t35, t1, t14, t11_3] w fun t57 w =>
      binQ Try.prog w .geq 3 true t57 (.int .i64 0) fun t59 =>
      gd t59 true (fun k => k t27 w) w fun t61 w =>
      gd t59 true (fun k => k t14 w) w fun t62 w =>
      gd t59 true (fun k => binQ Try.prog w .add 3 true t62 (.int .i64 1) fun v => k v w) w fun t63 w =>
      gd t59 true (fun k => iaS 1 t61 t63 fun v => k v w) w fun t64 w =>
      gd t59 true (fun k => ld1 w t64 fun v => k v w) w fun t65 w =>
      gd t59 true (fun k => k t57 w) w fun t66 w =>
      gd t59 true (fun k => iaS 1 t65 t66 fun v => k v w) w fun t67 w =>
      gd t59 true (fun k => ld1 w t67 fun v => k v w) w fun t68 w =>
      gd t59 true (fun k => binQ Try.prog w .gtr 3 true t68 (.int .i64 0) fun v => k v w) w fun t69 w =>
      pickQ t59 t69 (.bool false) fun t70 =>
      condW t70 (
        bsW Try.prog 30 1 [(0, t15)] w fun t74 w =>
        semW Try.prog (apS [30, 30] 30 [t13_4, t74]) w fun t75 w =>
        k_3 t57 t75 w
      ) (
        binQ Try.prog w .add 3 true t15 (.int .i64 1) fun t48 =>
        next_2 t11_3 t13_4 t48 w
      )
    ) (
      k_3 t11_3 t13_4 w
    )

def S28L0 (t0 t1 t2 t27 t35 : Value) (R : Ending → World → Prop) (w : World) : Prop :=
  Loop4 (.int .i64 0) (.slice none 0 0) (.slice none 0 0) (.int .i64 0) w fun _ t11 t12 t13 t14 w next =>
    binQ Try.prog w .mul 3 false t1 t2 fun t39 =>
    binQ Try.prog w .lss 3 false t14 t39 fun t40 =>
    condW t40 (
      Join (fun (k_3 : Value → Value → World → Prop) =>
        S28L1 t0 t1 t11 t13 t14 t27 t35 k_3 w
      ) fun t11_2 t13_3 w =>
      ln1 t13_3 fun t77_2 =>
      binQ Try.prog w .eql 3 false t77_2 t1 fun t79_2 =>
      Join (fun (k_4 : Value → Value → World → Prop) =>
        condW t79_2 (
          bsW Try.prog 23 1 [(0, t13_3)] w fun t82_2 w =>
          semW Try.prog (apS [23, 23] 23 [t12, t82_2]) w fun t83_2 w =>
          k_4 t83_2 (.slice none 0 0) w
        ) (
          k_4 t12 t13_3 w
        )
      ) fun t12_3 t13_5 w =>
      binQ Try.prog w .add 3 true t14 (.int .i64 1) fun t42_4 =>
      next t11_2 t12_3 t13_5 t42_4 w
    ) (
      R (.returned (.tuple #[t12, (.int .i64 0)])) w
    )

def S28 (t0 t1 t2 : Value) (w : World) (R : Ending → World → Prop) : Prop :=
  callW Try.prog (.func (.func 23) #[] #[]) [t0, t1, t2] w fun t20 w =>
  binQ Try.prog w .neq 26 true t20 (.int .i64 0) fun t22 =>
  condW t22 (
    R (.returned (.tuple #[(.slice none 0 0), t20])) w
  ) (
    callW Try.prog (.func (.func 75) #[] #[]) [t0, t1, t2] w fun t27 w =>
    iaS 1 t27 (.int .i64 0) fun t29 =>
    ld1 w t29 fun t30 =>
    iaS 1 t30 (.int .i64 0) fun t31 =>
    ld1 w t31 fun t32 =>
    binQ Try.prog w .eql 3 true t32 (.int .i64 0) fun t33 =>
    condW t33 (
      R (.returned (.tuple #[(.slice none 0 0), (.int .i64 10)])) w
    ) (
      callW Try.prog (.func (.func 70) #[] #[]) [t0] w fun t35 w =>
      S28L0 t0 t1 t2 t27 t35 R w
    )
  )

def A28 : Ann where
  live := fun
    | 0 => [11, 12, 13, 14]
    | 2 => [11, 13, 15]
    | _ => []
  wr := fun
    | 0 => fun i => (Nat.ble 11 i && Nat.ble i 16) || (Nat.ble 36 i && Nat.ble i 83)
    | 2 => fun i => Nat.beq i 11 || Nat.beq i 13 || (Nat.ble 15 i && Nat.ble i 16) || (Nat.ble 43 i && Nat.ble i 75)
    | _ => fun _ => false
  sched := fun _ => .done

set_option maxRecDepth 100000 in
theorem ok28 : (codeOk Try.f28.ntmps A28 (Try.f28.body.getD .skip) 0 && Nat.ble 3 Try.f28.ntmps) = true := by kernel_rfl
set_option maxRecDepth 100000 in
theorem lift28 {t0 t1 t2 : Value} {w : World} {R : Ending → World → Prop} (h : S28 t0 t1 t2 w R) : Calls Try.prog 28 #[t0, t1, t2] w R :=
  calls_of_cw (fn := Try.f28) (c := Try.f28.body.getD .skip) A28 mixes Try.func28 (by kernel_rfl) ok28
    ((by kernel_rfl : (S28 t0 t1 t2 w R) = cw Try.prog A28 (Try.f28.body.getD .skip) 0 (bodyQ Try.prog Try.f28 R) (frOf #[t0, t1, t2]) w).mp h)

def S69L0 (t0 t1 : Value) (R : Ending → World → Prop) (w : World) : Prop :=
  Loop2 (.int .i64 1) (.int .i64 0) w fun _ t5 t6 w next =>
    binQ Try.prog w .lss 3 false t6 t1 fun t9 =>
    condW t9 (
      binQ Try.prog w .mul 3 false t5 t0 fun t14 =>
      binQ Try.prog w .add 3 true t6 (.int .i64 1) fun t11 =>
      next t14 t11 w
    ) (
      R (.returned t5) w
    )



def S69 (t0 t1 : Value) (w : World) (R : Ending → World → Prop) : Prop :=
  S69L0 t0 t1 R w

def A69 : Ann where
  live := fun
    | 0 => [5, 6]
    | _ => []
  wr := fun
    | 0 => fun i => (Nat.ble 5 i && Nat.ble i 14)
    | _ => fun _ => false
  sched := fun _ => .done

set_option maxRecDepth 100000 in
theorem ok69 : (codeOk Try.f69.ntmps A69 (Try.f69.body.getD .skip) 0 && Nat.ble 2 Try.f69.ntmps) = true := by kernel_rfl
set_option maxRecDepth 100000 in
theorem lift69 {t0 t1 : Value} {w : World} {R : Ending → World → Prop} (h : S69 t0 t1 w R) : Calls Try.prog 69 #[t0, t1] w R :=
  calls_of_cw (fn := Try.f69) (c := Try.f69.body.getD .skip) A69 mixes Try.func69 (by kernel_rfl) ok69
    ((by kernel_rfl : (S69 t0 t1 w R) = cw Try.prog A69 (Try.f69.body.getD .skip) 0 (bodyQ Try.prog Try.f69 R) (frOf #[t0, t1]) w).mp h)

def S70L1 (t0 t3 t4 : Value) (next : Value → Value → World → Prop) (w : World) : Prop :=
  Loop2 (.bool false) (.int .i64 0) w fun _ t5 t6 w next_2 =>
    ln1 t0 fun t13 =>
    binQ Try.prog w .lss 3 false t6 t13 fun t14 =>
    condW t14 (
      gd t5 false (fun k => k t0 w) w fun t19 w =>
      gd t5 false (fun k => k t6 w) w fun t20 w =>
      gd t5 false (fun k => iaS 4 t19 t20 fun v => k v w) w fun t21 w =>
      gd t5 false (fun k => fa1 t21 0 fun v => k v w) w fun t22 w =>
      gd t5 false (fun k => ld1 w t22 fun v => k v w) w fun t23 w =>
      gd t5 false (fun k => k t4 w) w fun t24 w =>
      gd t5 false (fun k => binQ Try.prog w .eql 3 false t23 t24 fun v => k v w) w fun t25 w =>
      pickQ t5 (.bool true) t25 fun t26 =>
      gd t26 false (fun k => k t0 w) w fun t28 w =>
      gd t26 false (fun k => k t6 w) w fun t29 w =>
      gd t26 false (fun k => iaS 4 t28 t29 fun v => k v w) w fun t30 w =>
      gd t26 false (fun k => fa1 t30 2 fun v => k v w) w fun t31 w =>
      gd t26 false (fun k => ld1 w t31 fun v => k v w) w fun t32 w =>
      gd t26 false (fun k => k t4 w) w fun t33 w =>
      gd t26 false (fun k => binQ Try.prog w .eql 3 false t32 t33 fun v => k v w) w fun t34 w =>
      pickQ t26 (.bool true) t34 fun t35 =>
      binQ Try.prog w .add 3 true t6 (.int .i64 1) fun t16 =>
      next_2 t35 t16 w
    ) (
      Join (fun (k_2 : Value → World → Prop) =>
        condW t5 (
          bsW Try.prog 30 1 [(0, t4)] w fun t39 w =>
          semW Try.prog (apS [30, 30] 30 [t3, t39]) w fun t40 w =>
          k_2 t40 w
        ) (
          k_2 t3 w
        )
      ) fun t3_2 w =>
      binQ Try.prog w .add 3 true t4 (.int .i64 1) fun t10_2 =>
      next t3_2 t10_2 w
    )

def S70L0 (t0 : Value) (R : Ending → World → Prop) (w : World) : Prop :=
  Loop2 (.slice none 0 0) (.int .i64 0) w fun _ t3 t4 w next =>
    binQ Try.prog w .leq 3 true t4 (.int .i64 7) fun t8 =>
    condW t8 (
      S70L1 t0 t3 t4 next w
    ) (
      R (.returned t3) w
    )



def S70 (t0 : Value) (w : World) (R : Ending → World → Prop) : Prop :=
  S70L0 t0 R w

def A70 : Ann where
  live := fun
    | 0 => [3, 4]
    | 2 => [5, 6]
    | _ => []
  wr := fun
    | 0 => fun i => (Nat.ble 3 i && Nat.ble i 40)
    | 2 => fun i => (Nat.ble 5 i && Nat.ble i 6) || (Nat.ble 11 i && Nat.ble i 35)
    | _ => fun _ => false
  sched := fun _ => .done

set_option maxRecDepth 100000 in
theorem ok70 : (codeOk Try.f70.ntmps A70 (Try.f70.body.getD .skip) 0 && Nat.ble 1 Try.f70.ntmps) = true := by kernel_rfl
set_option maxRecDepth 100000 in
theorem lift70 {t0 : Value} {w : World} {R : Ending → World → Prop} (h : S70 t0 w R) : Calls Try.prog 70 #[t0] w R :=
  calls_of_cw (fn := Try.f70) (c := Try.f70.body.getD .skip) A70 mixes Try.func70 (by kernel_rfl) ok70
    ((by kernel_rfl : (S70 t0 w R) = cw Try.prog A70 (Try.f70.body.getD .skip) 0 (bodyQ Try.prog Try.f70 R) (frOf #[t0]) w).mp h)

def S75L3 (t0 t1 t13 t14 t19 t31 : Value) (next_3 : Value → World → Prop) (w : World) : Prop :=
  Loop2 (.int .i64 0) (.int .i64 0) w fun _ t15 t16 w next_4 =>
    ln1 t0 fun t72 =>
    binQ Try.prog w .lss 3 false t16 t72 fun t73 =>
    condW t73 (
      iaS 4 t0 t16 fun t78 =>
      ldN 4 w t78 fun t79 =>
      callW Try.prog (.func (.func 80) #[] #[]) [t79, t19, t1, t13, t14] w fun t84 w =>
      binQ Try.prog w .geq 3 true t84 (.int .i64 0) fun t86 =>
      Join (fun (k_2 : Value → World → Prop) =>
        condW t86 (
          binQ Try.prog w .add 3 true t13 (.int .i64 1) fun t90 =>
          iaS 1 t31 t90 fun t91 =>
          ld1 w t91 fun t92 =>
          iaS 1 t92 t84 fun t94 =>
          ld1 w t94 fun t95 =>
          binQ Try.prog w .add 3 false t15 t95 fun t96 =>
          callW Try.prog (.func (.func 88) #[] #[]) [t96] w fun t97 w =>
          k_2 t97 w
        ) (
          k_2 t15 w
        )
      ) fun t15_2 w =>
      binQ Try.prog w .add 3 true t16 (.int .i64 1) fun t75_2 =>
      next_4 t15_2 t75_2 w
    ) (
      iaS 1 t31 t13 fun t100 =>
      ld1 w t100 fun t101 =>
      iaS 1 t101 t14 fun t104 =>
      stW Try.prog 3 t104 t15 w fun w =>
      binQ Try.prog w .add 3 true t14 (.int .i64 1) fun t69 =>
      next_3 t69 w
    )

def S75L2 (t0 t1 t13 t19 t26 t31 : Value) (next_2 : Value → World → Prop) (w : World) : Prop :=
  Loop1 (.int .i64 0) w fun _ t14 w next_3 =>
    binQ Try.prog w .lss 3 false t14 t26 fun t67 =>
    condW t67 (
      S75L3 t0 t1 t13 t14 t19 t31 next_3 w
    ) (
      binQ Try.prog w .sub 3 true t13 (.int .i64 1) fun t59 =>
      next_2 t59 w
    )

def S75L1 (t0 t1 t19 t26 t31 t55 : Value) (R : Ending → World → Prop) (w : World) : Prop :=
  Loop1 t55 w fun _ t13 w next_2 =>
    binQ Try.prog w .geq 3 true t13 (.int .i64 0) fun t57 =>
    condW t57 (
      mkW Try.prog 30 t26 t26 w fun t63 w =>
      iaS 1 t31 t13 fun t64 =>
      stW Try.prog 30 t64 t63 w fun w =>
      S75L2 t0 t1 t13 t19 t26 t31 next_2 w
    ) (
      R (.returned t31) w
    )

def S75L0 (t0 t1 t2 t19 t26 t31 : Value) (R : Ending → World → Prop) (w : World) : Prop :=
  Loop1 (.int .i64 0) w fun _ t12 w next =>
    binQ Try.prog w .lss 3 false t12 t26 fun t41 =>
    condW t41 (
      binQ Try.prog w .mul 3 false t1 t2 fun t47 =>
      iaS 1 t31 t47 fun t48 =>
      ld1 w t48 fun t49 =>
      iaS 1 t49 t12 fun t51 =>
      stW Try.prog 3 t51 (.int .i64 1) w fun w =>
      binQ Try.prog w .add 3 true t12 (.int .i64 1) fun t43 =>
      next t43 w
    ) (
      binQ Try.prog w .mul 3 false t1 t2 fun t54 =>
      binQ Try.prog w .sub 3 true t54 (.int .i64 1) fun t55 =>
      S75L1 t0 t1 t19 t26 t31 t55 R w
    )



def S75 (t0 t1 t2 : Value) (w : World) (R : Ending → World → Prop) : Prop :=
  callW Try.prog (.func (.func 70) #[] #[]) [t0] w fun t19 w =>
  ln1 t19 fun t21 =>
  callW Try.prog (.func (.func 69) #[] #[]) [t21, t1] w fun t24 w =>
  binQ Try.prog w .mul 3 false t24 (.int .i64 8) fun t26 =>
  binQ Try.prog w .mul 3 false t1 t2 fun t29 =>
  binQ Try.prog w .add 3 true t29 (.int .i64 1) fun t30 =>
  mkW Try.prog 23 t30 t30 w fun t31 w =>
  binQ Try.prog w .mul 3 false t1 t2 fun t35 =>
  mkW Try.prog 30 t26 t26 w fun t37 w =>
  iaS 1 t31 t35 fun t38 =>
  stW Try.prog 30 t38 t37 w fun w =>
  S75L0 t0 t1 t2 t19 t26 t31 R w

def A75 : Ann where
  live := fun
    | 0 => [12]
    | 2 => [13]
    | 4 => [14]
    | 6 => [15, 16]
    | _ => []
  wr := fun
    | 0 => fun i => Nat.beq i 12 || (Nat.ble 39 i && Nat.ble i 51)
    | 2 => fun i => (Nat.ble 13 i && Nat.ble i 17) || (Nat.ble 56 i && Nat.ble i 104)
    | 4 => fun i => (Nat.ble 14 i && Nat.ble i 17) || (Nat.ble 65 i && Nat.ble i 104)
    | 6 => fun i => (Nat.ble 15 i && Nat.ble i 17) || (Nat.ble 70 i && Nat.ble i 97)
    | _ => fun _ => false
  sched := fun _ => .done

set_option maxRecDepth 100000 in
theorem ok75 : (codeOk Try.f75.ntmps A75 (Try.f75.body.getD .skip) 0 && Nat.ble 3 Try.f75.ntmps) = true := by kernel_rfl
set_option maxRecDepth 100000 in
theorem lift75 {t0 t1 t2 : Value} {w : World} {R : Ending → World → Prop} (h : S75 t0 t1 t2 w R) : Calls Try.prog 75 #[t0, t1, t2] w R :=
  calls_of_cw (fn := Try.f75) (c := Try.f75.body.getD .skip) A75 mixes Try.func75 (by kernel_rfl) ok75
    ((by kernel_rfl : (S75 t0 t1 t2 w R) = cw Try.prog A75 (Try.f75.body.getD .skip) 0 (bodyQ Try.prog Try.f75 R) (frOf #[t0, t1, t2]) w).mp h)

def S80 (t0 t1 t2 t3 t4 : Value) (w : World) (R : Ending → World → Prop) : Prop :=
  boxW 32 t0 w fun t5 w =>
  ln1 t1 fun t17 =>
  binQ Try.prog w .rem 3 false t3 t2 fun t20 =>
  callW Try.prog (.func (.func 69) #[] #[]) [t17, t20] w fun t23 w =>
  binQ Try.prog w .mul 3 false t23 (.int .i64 8) fun t25 =>
  binQ Try.prog w .quo 3 false t4 t25 fun t28 =>
  binQ Try.prog w .rem 3 false t28 t17 fun t30 =>
  Drew w fun w =>
  binQ Try.prog w .geq 3 false t3 t2 fun t33 =>
  gdQ t33 true (fun k => k t1) fun t35 =>
  gdQ t33 true (fun k => k t30) fun t36 =>
  gdQ t33 true (fun k => iaS 1 t35 t36 k) fun t37 =>
  gdQ t33 true (fun k => ld1 w t37 k) fun t38 =>
  gdQ t33 true (fun k => fa1 t5 0 k) fun t39 =>
  gdQ t33 true (fun k => ld1 w t39 k) fun t40 =>
  gdQ t33 true (fun k => binQ Try.prog w .neq 3 false t38 t40 k) fun t41 =>
  pickQ t33 t41 (.bool false) fun t42 =>
  gdQ t42 false (fun k => k t20) fun t44 =>
  gdQ t42 false (fun k => binQ Try.prog w .gtr 3 true t44 (.int .i64 0) k) fun t45 =>
  gdQ t42 false (fun k => k t45) fun t46 =>
  gdQ t46 true (fun k => k t4) fun t47 =>
  gdQ t46 true (fun k => k (.int .i64 8)) fun t48 =>
  gdQ t46 true (fun k => binQ Try.prog w .rem 3 false t47 t48 k) fun t49 =>
  gdQ t46 true (fun k => fa1 t5 3 k) fun t50 =>
  gdQ t46 true (fun k => ld1 w t50 k) fun t51 =>
  gdQ t46 true (fun k => binQ Try.prog w .neq 3 false t49 t51 k) fun t52 =>
  gdQ t42 false (fun k => pickQ t46 t52 (.bool false) k) fun t53 =>
  pickQ t42 (.bool true) t53 fun t54 =>
  condW t54 (
    R (.returned (.int .i64 (-1))) w
  ) (
    Drew w fun w =>
    binQ Try.prog w .mul 3 false t30 t25 fun t58 =>
    binQ Try.prog w .sub 3 false t4 t58 fun t59 =>
    fa1 t5 2 fun t61 =>
    ld1 w t61 fun t62 =>
    binQ Try.prog w .rem 3 false t4 (.int .i64 8) fun t69 =>
    fa1 t5 1 fun t71 =>
    ld1 w t71 fun t72 =>
    callW Try.prog (.func (.func 107) #[] #[]) [t1, t62] w <| keepB w fun t63 w =>
    binQ Try.prog w .mul 3 false t63 t25 fun t65 =>
    binQ Try.prog w .add 3 false t59 t65 fun t66 =>
    binQ Try.prog w .sub 3 false t66 t69 fun t70 =>
    binQ Try.prog w .add 3 false t70 t72 fun t73 =>
    R (.returned t73) w
  )

def A80 : Ann where
  live := fun _ => []
  wr := fun _ _ => false
  sched := fun
    | 5 => (.take 0 (.take 1 (.take 2 (.take 3 (.take 4 (.take 5 (.take 6 (.take 7 (.take 8 (.take 9 (.take 10 (.take 11 (.take 12 (.take 13 (.take 14 (.take 15 (.take 16 (.take 17 (.take 18 (.take 19 (.take 20 (.take 21 (.take 22 (.take 23 .done))))))))))))))))))))))))
    | 7 => (.take 0 (.take 1 (.take 2 (.take 3 (.take 4 (.take 5 (.take 6 (.take 7 (.take 9 (.take 12 (.take 13 (.take 14 (.take 16 (.take 17 (.eff 8 (.take 10 (.take 11 (.take 15 (.take 18 (.take 19 .done))))))))))))))))))))
    | _ => .done

set_option maxRecDepth 100000 in
theorem ok80 : (codeOk Try.f80.ntmps A80 (Try.f80.body.getD .skip) 0 && Nat.ble 5 Try.f80.ntmps) = true := by kernel_rfl
set_option maxRecDepth 100000 in
theorem lift80 {t0 t1 t2 t3 t4 : Value} {w : World} {R : Ending → World → Prop} (h : S80 t0 t1 t2 t3 t4 w R) : Calls Try.prog 80 #[t0, t1, t2, t3, t4] w R :=
  calls_of_cw (fn := Try.f80) (c := Try.f80.body.getD .skip) A80 mixes Try.func80 (by kernel_rfl) ok80
    ((by kernel_rfl : (S80 t0 t1 t2 t3 t4 w R) = cw Try.prog A80 (Try.f80.body.getD .skip) 0 (bodyQ Try.prog Try.f80 R) (frOf #[t0, t1, t2, t3, t4]) w).mp h)

def S88 (t0 : Value) (w : World) (R : Ending → World → Prop) : Prop :=
  mnQ false [t0, (.int .i64 1099511627777)] fun t4 =>
  R (.returned t4) w

def A88 : Ann where
  live := fun _ => []
  wr := fun _ _ => false
  sched := fun _ => .done

set_option maxRecDepth 100000 in
theorem ok88 : (codeOk Try.f88.ntmps A88 (Try.f88.body.getD .skip) 0 && Nat.ble 1 Try.f88.ntmps) = true := by kernel_rfl
set_option maxRecDepth 100000 in
theorem lift88 {t0 : Value} {w : World} {R : Ending → World → Prop} (h : S88 t0 w R) : Calls Try.prog 88 #[t0] w R :=
  calls_of_cw (fn := Try.f88) (c := Try.f88.body.getD .skip) A88 mixes Try.func88 (by kernel_rfl) ok88
    ((by kernel_rfl : (S88 t0 w R) = cw Try.prog A88 (Try.f88.body.getD .skip) 0 (bodyQ Try.prog Try.f88 R) (frOf #[t0]) w).mp h)

def S107L0 (t0 t1 : Value) (R : Ending → World → Prop) (w : World) : Prop :=
  Loop1 (.int .i64 0) w fun _ t5 w next =>
    ln1 t0 fun t8 =>
    binQ Try.prog w .lss 3 false t5 t8 fun t9 =>
    condW t9 (
      iaS 1 t0 t5 fun t14 =>
      ld1 w t14 fun t15 =>
      binQ Try.prog w .eql 3 false t15 t1 fun t17 =>
      condW t17 (
        R (.returned t5) w
      ) (
        binQ Try.prog w .add 3 true t5 (.int .i64 1) fun t11 =>
        next t11 w
      )
    ) (
      R (.returned (.int .i64 (-1))) w
    )



def S107 (t0 t1 : Value) (w : World) (R : Ending → World → Prop) : Prop :=
  S107L0 t0 t1 R w

def A107 : Ann where
  live := fun
    | 0 => [5]
    | _ => []
  wr := fun
    | 0 => fun i => (Nat.ble 4 i && Nat.ble i 18)
    | _ => fun _ => false
  sched := fun _ => .done

set_option maxRecDepth 100000 in
theorem ok107 : (codeOk Try.f107.ntmps A107 (Try.f107.body.getD .skip) 0 && Nat.ble 2 Try.f107.ntmps) = true := by kernel_rfl
set_option maxRecDepth 100000 in
theorem lift107 {t0 t1 : Value} {w : World} {R : Ending → World → Prop} (h : S107 t0 t1 w R) : Calls Try.prog 107 #[t0, t1] w R :=
  calls_of_cw (fn := Try.f107) (c := Try.f107.body.getD .skip) A107 mixes Try.func107 (by kernel_rfl) ok107
    ((by kernel_rfl : (S107 t0 t1 w R) = cw Try.prog A107 (Try.f107.body.getD .skip) 0 (bodyQ Try.prog Try.f107 R) (frOf #[t0, t1]) w).mp h)

def S6 (t0 t1 t2 : Value) (w : World) (R : Ending → World → Prop) : Prop :=
  ln1 t0 fun t15 =>
  binQ Try.prog w .gtr 3 true t15 (.int .i64 40) fun t16 =>
  gd t16 false (fun k => k t0 w) w fun t18 w =>
  gd t16 false (fun k => k t1 w) w fun t19 w =>
  gd t16 false (fun k => k t2 w) w fun t20 w =>
  gd t16 false (fun k => callW Try.prog (.func (.func 23) #[] #[]) [t18, t19, t20] w k) w fun t21 w =>
  gd t16 false (fun k => binQ Try.prog w .eql 26 true t21 (.int .i64 0) fun v => k v w) w fun t22 w =>
  gd t16 false (fun k => k t22 w) w fun t23 w =>
  gd t23 true (fun k => k t0 w) w fun t24 w =>
  gd t23 true (fun k => k t1 w) w fun t25 w =>
  gd t23 true (fun k => callW Try.prog (.func (.func 24) #[] #[]) [t24, t25] w k) w fun t26 w =>
  gd t23 true (fun k => binQ Try.prog w .gtr 3 true t26 (.int .i64 60000) fun v => k v w) w fun t27 w =>
  gd t16 false (fun k => pickQ t23 t27 (.bool false) fun v => k v w) w fun t28 w =>
  pickQ t16 (.bool true) t28 fun t29 =>
  condW t29 (
    callW Try.prog (.func (.func 18) #[] #[]) [] w fun t30 w =>
    R (.returned t30) w
  ) (
    bsW Try.prog 22 0 [] w fun t31 w =>
    semW Try.prog (apS [22, 22] 22 [t31, t0]) w fun t33 w =>
    callW Try.prog (.func (.func 25) #[] #[]) [t33, t1, t2] w fun t38 w =>
    exQ t38 0 fun t39 =>
    exQ t38 1 fun t40 =>
    callW Try.prog (.func (.func 26) #[] #[]) [t0, t1, t2] w fun t45 w =>
    exQ t45 0 fun t46 =>
    exQ t45 1 fun t47 =>
    binQ Try.prog w .neq 3 false t39 t46 fun t50 =>
    gd t50 false (fun k => k t40 w) w fun t52 w =>
    gd t50 false (fun k => k t47 w) w fun t53 w =>
    gd t50 false (fun k => binQ Try.prog w .neq 26 false t52 t53 fun v => k v w) w fun t54 w =>
    pickQ t50 (.bool true) t54 fun t55 =>
    condW t55 (
      R (.returned (.bool false)) w
    ) (
      callW Try.prog (.func (.func 27) #[] #[]) [t33, t1, t2] w fun t60 w =>
      exQ t60 0 fun t61 =>
      exQ t60 1 fun t62 =>
      callW Try.prog (.func (.func 28) #[] #[]) [t0, t1, t2] w fun t67 w =>
      exQ t67 0 fun t68 =>
      exQ t67 1 fun t69 =>
      binQ Try.prog w .eql 26 false t62 t69 fun t72 =>
      gd t72 true (fun k => k t61 w) w fun t74 w =>
      gd t72 true (fun k => k t68 w) w fun t75 w =>
      gd t72 true (fun k => callW Try.prog (.func (.func 29) #[] #[]) [t74, t75] w k) w fun t76 w =>
      pickQ t72 t76 (.bool false) fun t77 =>
      gd t77 true (fun k => k t33 w) w fun t79 w =>
      gd t77 true (fun k => k t0 w) w fun t80 w =>
      gd t77 true (fun k => callW Try.prog (.func (.func 30) #[] #[]) [t79, t80] w k) w fun t81 w =>
      pickQ t77 t81 (.bool false) fun t82 =>
      gd t82 true (fun k => callW Try.prog (.func (.func 18) #[] #[]) [] w k) w fun t84 w =>
      pickQ t82 t84 (.bool false) fun t85 =>
      R (.returned t85) w
    )
  )

def A6 : Ann where
  live := fun _ => []
  wr := fun _ _ => false
  sched := fun _ => .done

set_option maxRecDepth 100000 in
theorem ok6 : (codeOk Try.f6.ntmps A6 (Try.f6.body.getD .skip) 0 && Nat.ble 3 Try.f6.ntmps) = true := by kernel_rfl
set_option maxRecDepth 100000 in
theorem lift6 {t0 t1 t2 : Value} {w : World} {R : Ending → World → Prop} (h : S6 t0 t1 t2 w R) : Calls Try.prog 6 #[t0, t1, t2] w R :=
  calls_of_cw (fn := Try.f6) (c := Try.f6.body.getD .skip) A6 mixes Try.func6 (by kernel_rfl) ok6
    ((by kernel_rfl : (S6 t0 t1 t2 w R) = cw Try.prog A6 (Try.f6.body.getD .skip) 0 (bodyQ Try.prog Try.f6 R) (frOf #[t0, t1, t2]) w).mp h)

theorem fok27 : fnOk Try.prog 27 = true := by kernel_rfl
theorem fok77 : fnOk Try.prog 77 = true := by kernel_rfl
theorem fok78 : fnOk Try.prog 78 = true := by kernel_rfl
theorem fok24 : fnOk Try.prog 24 = true := by kernel_rfl
theorem fok26 : fnOk Try.prog 26 = true := by kernel_rfl
theorem fok28 : fnOk Try.prog 28 = true := by kernel_rfl
theorem fok69 : fnOk Try.prog 69 = true := by kernel_rfl
theorem fok70 : fnOk Try.prog 70 = true := by kernel_rfl
theorem fok75 : fnOk Try.prog 75 = true := by kernel_rfl
theorem fok80 : fnOk Try.prog 80 = true := by kernel_rfl
theorem fok88 : fnOk Try.prog 88 = true := by kernel_rfl
theorem fok107 : fnOk Try.prog 107 = true := by kernel_rfl
theorem fok6 : fnOk Try.prog 6 = true := by kernel_rfl
end Go.Proofs.Ytgalbokmgffhkaa

/- Contracts: Lines, index, power, put of the specification. -/
namespace Go.Proofs.Ytgalbokmgffhkaa
open Go.Lf Go.RowKit Go.Wg

set_option maxRecDepth 100000 in
theorem power_calls {n k : Nat} (w : World) (hb : n ^ k ≤ 1000000) (hn : 0 < n) (hk : k ≤ 1000) : Calls Try.prog 69 #[.int .i64 n, .int .i64 k] w fun e w' => e = .returned (.int .i64 (n ^ k : Nat)) ∧ w = w' := by
  refine lift69 ?_
  unfold S69 S69L0
  refine ⟨fun t5 t6 wr => ∃ i : Nat, i ≤ k ∧ t6 = .int .i64 i ∧ t5 = .int .i64 (n ^ i : Nat) ∧ w = wr, fun _ t6 _ => k - (intOf t6).toNat, ⟨0, by omega, rfl, by simp, rfl⟩, ?_⟩
  rintro _ _ _ _ ⟨i, hi, rfl, rfl, rfl⟩
  by_cases hlt : i < k
  case neg =>
    have hlt' : ¬ (i : Int) < (k : Int) := by omega
    have : i = k := by omega
    subst this
    simp (disch := omega) only [r_ln, r_pick, r_pickT, r_pickF, r_condT, r_condF, r_gdTT, r_gdFF, r_gdTF, r_gdFT, r_gqTT, r_gqFF, r_gqTF, r_gqFT, r_not, r_lss, r_leq, r_gtr, r_geq, r_eql, r_neq, r_add, r_sub, r_min2, r_max2, r_min3, r_max3, r_fa, r_iaS, r_iaA, r_ex2a, r_ex2b, r_ex3a, r_ex3b, r_ex3c, r_nc, r_keepE, Nat.zero_add, Nat.add_zero, Nat.mul_one, Int.toNat_natCast, toNat_sub1, toNat_add1, decide_true, decide_false, Bool.not_true, Bool.not_false, if_true, if_false, Bool.false_eq_true, reduceCtorEq, hlt']
    exact ⟨by first | rfl | trivial, by first | rfl | trivial⟩
  have hlt' : (i : Int) < (k : Int) := by omega
  have hle : n ^ (i + 1) ≤ n ^ k := Nat.pow_le_pow_right hn (by omega)
  rw [Nat.pow_succ] at hle
  simp (disch := omega) only [r_ln, r_pick, r_pickT, r_pickF, r_condT, r_condF, r_gdTT, r_gdFF, r_gdTF, r_gdFT, r_gqTT, r_gqFF, r_gqTF, r_gqFT, r_not, r_lss, r_leq, r_gtr, r_geq, r_eql, r_neq, r_add, r_sub, r_min2, r_max2, r_min3, r_max3, r_fa, r_iaS, r_iaA, r_ex2a, r_ex2b, r_ex3a, r_ex3b, r_ex3c, r_nc, r_keepE, Nat.zero_add, Nat.add_zero, Nat.mul_one, Int.toNat_natCast, toNat_sub1, toNat_add1, decide_true, decide_false, Bool.not_true, Bool.not_false, if_true, if_false, Bool.false_eq_true, reduceCtorEq, decide_eq_true hlt']
  rw [r_mulN _ _ (by omega)]
  refine ⟨⟨i + 1, by omega, by go_num, by rw [Nat.pow_succ], by first | rfl | trivial⟩, by simp only [intOf]; omega⟩

set_option maxRecDepth 100000 in
theorem index107_calls {v : Value} {l : List Int} (x : Int) (w : World) (hr : RdInts w v l) : Calls Try.prog 107 #[v, .int .i64 x] w fun e w' => e = .returned (.int .i64 (idxI l x)) ∧ Kp w w' := by
  have hr' := hr
  obtain ⟨a, cap, rfl, hcap, _⟩ := hr.len
  refine lift107 ?_
  unfold S107 S107L0
  refine ⟨fun t8 wr => ∃ i : Nat, i ≤ l.length ∧ t8 = .int .i64 i ∧ x ∉ l.take i ∧ Kp w wr, fun t8 _ => l.length - (intOf t8).toNat, ⟨0, by omega, rfl, by simp, Kp.refl _⟩, ?_⟩
  rintro _ _ wr ⟨i, hi, rfl, hn, hkr⟩
  by_cases hlt : i < l.length
  case neg =>
    have hlt' : ¬ (i : Int) < (l.length : Int) := by omega
    simp (disch := omega) only [r_ln, r_pick, r_pickT, r_pickF, r_condT, r_condF, r_gdTT, r_gdFF, r_gdTF, r_gdFT, r_gqTT, r_gqFF, r_gqTF, r_gqFT, r_not, r_lss, r_leq, r_gtr, r_geq, r_eql, r_neq, r_add, r_sub, r_min2, r_max2, r_min3, r_max3, r_fa, r_iaS, r_iaA, r_ex2a, r_ex2b, r_ex3a, r_ex3b, r_ex3c, r_nc, r_keepE, Nat.zero_add, Nat.add_zero, Nat.mul_one, Int.toNat_natCast, toNat_sub1, toNat_add1, decide_true, decide_false, Bool.not_true, Bool.not_false, if_true, if_false, Bool.false_eq_true, reduceCtorEq, hlt']
    rw [List.take_of_length_le (by omega)] at hn
    exact ⟨by rw [idxI, if_neg hn], hkr⟩
  have hlt' : (i : Int) < (l.length : Int) := by omega
  obtain ⟨b1, o1, _, e1, hc⟩ := (hr'.below hkr).at hlt
  cases e1
  rw [getD_lt _ _ _ hlt] at hc
  have hii : (i : Int).toNat = i := by omega
  have hx : l[i]? = some l[i] := List.getElem?_eq_getElem hlt
  by_cases he : l[i] = x
  · simp (disch := omega) only [r_ln, r_pick, r_pickT, r_pickF, r_condT, r_condF, r_gdTT, r_gdFF, r_gdTF, r_gdFT, r_gqTT, r_gqFF, r_gqTF, r_gqFT, r_not, r_lss, r_leq, r_gtr, r_geq, r_eql, r_neq, r_add, r_sub, r_min2, r_max2, r_min3, r_max3, r_fa, r_iaS, r_iaA, r_ex2a, r_ex2b, r_ex3a, r_ex3b, r_ex3c, r_nc, r_keepE, Nat.zero_add, Nat.add_zero, Nat.mul_one, Int.toNat_natCast, toNat_sub1, toNat_add1, decide_true, decide_false, Bool.not_true, Bool.not_false, if_true, if_false, Bool.false_eq_true, reduceCtorEq, decide_eq_true hlt', hii, r_ld hc, decide_eq_true he]
    rw [he] at hx
    exact ⟨by rw [idx_first hx hn], hkr⟩
  · simp (disch := omega) only [r_ln, r_pick, r_pickT, r_pickF, r_condT, r_condF, r_gdTT, r_gdFF, r_gdTF, r_gdFT, r_gqTT, r_gqFF, r_gqTF, r_gqFT, r_not, r_lss, r_leq, r_gtr, r_geq, r_eql, r_neq, r_add, r_sub, r_min2, r_max2, r_min3, r_max3, r_fa, r_iaS, r_iaA, r_ex2a, r_ex2b, r_ex3a, r_ex3b, r_ex3c, r_nc, r_keepE, Nat.zero_add, Nat.add_zero, Nat.mul_one, Int.toNat_natCast, toNat_sub1, toNat_add1, decide_true, decide_false, Bool.not_true, Bool.not_false, if_true, if_false, Bool.false_eq_true, reduceCtorEq, decide_eq_true hlt', hii, r_ld hc, he]
    refine ⟨⟨i + 1, by omega, by go_num, ?_, hkr⟩, by simp only [intOf]; omega⟩
    intro hm
    rw [take_succ' _ _ hlt] at hm
    rcases List.mem_append.1 hm with h | h
    · exact hn h
    · exact he (by simp at h; exact h.symm)

theorem lineB_take {l : List Tile} {c i : Nat} (hi : i < l.length) : lineB (l.take (i + 1)) c = (lineB (l.take i) c || (decide (tN l[i] = (c : Int)) || decide (tS l[i] = (c : Int)))) := by
  unfold lineB
  rw [take_succ' _ _ hi, List.any_append]
  simp

set_option maxRecDepth 100000 in
theorem r70_1 {w0 w : World} {sv t3 : Value} {l : List Tile} {c : Nat} {P : List Int} {next : Value → Value → World → Prop} (hr : RdT w0 sv l) (hl : l.length ≤ 1000) (hP : IntsAt w0.heap.size w t3 P) (hPl : P.length ≤ 100) (hc : c ≤ 100) (hk : Kp w0 w)
    (hn : ∀ v w', IntsAt w0.heap.size w' v (P ++ if lineB l c = true then [(c : Int)] else []) → Kp w0 w' → next v (.int .i64 ((c : Int) + 1)) w') : S70L1 sv t3 (.int .i64 c) next w := by
  obtain ⟨sa, sc, es, _⟩ := hr.len
  have lns : ∀ K : Value → Prop, ln1 sv K = K (.int .i64 l.length) := fun K => by rw [es]; rfl
  unfold S70L1
  refine ⟨fun t5 t6 wr => ∃ i : Nat, i ≤ l.length ∧ t6 = .int .i64 i ∧ t5 = .bool (lineB (l.take i) c) ∧ Kp w wr, fun _ t6 _ => l.length - (intOf t6).toNat, ⟨0, by omega, rfl, rfl, Kp.refl _⟩, ?_⟩
  rintro _ _ _ wr ⟨i, hi, rfl, rfl, kr⟩
  have hk0 := hk
  have hk := Kp.trans hk0 kr
  have hP := hP.kp kr
  rw [lns]
  by_cases hlt : i < l.length
  case pos =>
    have hlt' : (i : Int) < (l.length : Int) := by omega
    obtain ⟨b, off, cap, e, _, hcell⟩ := (hr.kp hk).at (List.getElem?_eq_getElem hlt)
    have hii : (i : Int).toNat = i := by omega
    have ia : ∀ K : Value → Prop, iaS 4 sv (.int .i64 i) K = K (.pointer (some ⟨b, off + i * 4, none⟩)) := fun K => by rw [e, r_iaS _ _ _ _ _ _ _ (by omega) (by omega), hii]
    have htk := lineB_take (c := c) hlt
    generalize l[i] = t at *
    have c0 : wr.cell? ⟨b, off + i * 4, none⟩ = some (.int .i64 (tN t)) := hcell 0 _ rfl
    have c2 : wr.cell? ⟨b, off + i * 4 + 2, none⟩ = some (.int .i64 (tS t)) := hcell 2 _ rfl
    have go : ∀ b : Bool, b = lineB (l.take (i + 1)) c → (∃ j : Nat, j ≤ l.length ∧ Value.int .i64 ((i : Int) + 1) = .int .i64 j ∧ Value.bool b = .bool (lineB (l.take j) c) ∧ Kp w wr) ∧ l.length - (intOf (.int .i64 ((i : Int) + 1))).toNat < l.length - (intOf (.int .i64 (i : Int))).toNat := fun b hb => ⟨⟨i + 1, by omega, by go_num, by rw [hb], kr⟩, by simp only [intOf]; omega⟩
    cases hB : lineB (l.take i) c with
    | true =>
      simp (disch := omega) only [r_ln, r_pick, r_pickT, r_pickF, r_condT, r_condF, r_gdTT, r_gdFF, r_gdTF, r_gdFT, r_gqTT, r_gqFF, r_gqTF, r_gqFT, r_not, r_lss, r_leq, r_gtr, r_geq, r_eql, r_neq, r_add, r_sub, r_min2, r_max2, r_min3, r_max3, r_fa, r_iaS, r_iaA, r_ex2a, r_ex2b, r_ex3a, r_ex3b, r_ex3c, r_nc, r_keepE, Nat.zero_add, Nat.add_zero, Nat.mul_one, Int.toNat_natCast, toNat_sub1, toNat_add1, decide_true, decide_false, Bool.not_true, Bool.not_false, if_true, if_false, Bool.false_eq_true, reduceCtorEq, decide_eq_true hlt', r_gdU]
      exact go true (by rw [htk, hB]; rfl)
    | false =>
      by_cases g1 : tN t = (c : Int)
      · simp (disch := omega) only [r_ln, r_pick, r_pickT, r_pickF, r_condT, r_condF, r_gdTT, r_gdFF, r_gdTF, r_gdFT, r_gqTT, r_gqFF, r_gqTF, r_gqFT, r_not, r_lss, r_leq, r_gtr, r_geq, r_eql, r_neq, r_add, r_sub, r_min2, r_max2, r_min3, r_max3, r_fa, r_iaS, r_iaA, r_ex2a, r_ex2b, r_ex3a, r_ex3b, r_ex3c, r_nc, r_keepE, Nat.zero_add, Nat.add_zero, Nat.mul_one, Int.toNat_natCast, toNat_sub1, toNat_add1, decide_true, decide_false, Bool.not_true, Bool.not_false, if_true, if_false, Bool.false_eq_true, reduceCtorEq, decide_eq_true hlt', r_gdU, ia, r_ld c0, decide_eq_true g1]
        exact go true (by rw [htk, decide_eq_true g1, Bool.true_or, Bool.or_true])
      by_cases g2 : tS t = (c : Int)
      · simp (disch := omega) only [r_ln, r_pick, r_pickT, r_pickF, r_condT, r_condF, r_gdTT, r_gdFF, r_gdTF, r_gdFT, r_gqTT, r_gqFF, r_gqTF, r_gqFT, r_not, r_lss, r_leq, r_gtr, r_geq, r_eql, r_neq, r_add, r_sub, r_min2, r_max2, r_min3, r_max3, r_fa, r_iaS, r_iaA, r_ex2a, r_ex2b, r_ex3a, r_ex3b, r_ex3c, r_nc, r_keepE, Nat.zero_add, Nat.add_zero, Nat.mul_one, Int.toNat_natCast, toNat_sub1, toNat_add1, decide_true, decide_false, Bool.not_true, Bool.not_false, if_true, if_false, Bool.false_eq_true, reduceCtorEq, decide_eq_true hlt', r_gdU, ia, r_ld c0, g1, r_ld c2, decide_eq_true g2]
        exact go true (by rw [htk, decide_eq_true g2, Bool.or_true, Bool.or_true])
      · simp (disch := omega) only [r_ln, r_pick, r_pickT, r_pickF, r_condT, r_condF, r_gdTT, r_gdFF, r_gdTF, r_gdFT, r_gqTT, r_gqFF, r_gqTF, r_gqFT, r_not, r_lss, r_leq, r_gtr, r_geq, r_eql, r_neq, r_add, r_sub, r_min2, r_max2, r_min3, r_max3, r_fa, r_iaS, r_iaA, r_ex2a, r_ex2b, r_ex3a, r_ex3b, r_ex3c, r_nc, r_keepE, Nat.zero_add, Nat.add_zero, Nat.mul_one, Int.toNat_natCast, toNat_sub1, toNat_add1, decide_true, decide_false, Bool.not_true, Bool.not_false, if_true, if_false, Bool.false_eq_true, reduceCtorEq, decide_eq_true hlt', r_gdU, ia, r_ld c0, g1, r_ld c2, g2]
        exact go false (by rw [htk, decide_eq_false g1, decide_eq_false g2, hB]; rfl)
  have hlt' : ¬ (i : Int) < (l.length : Int) := by omega
  rw [List.take_of_length_le (by omega)]
  simp (disch := omega) only [r_lss, hlt', decide_false, r_condF]
  refine r_join1 (fun v w' => IntsAt w0.heap.size w' v (P ++ if lineB l c = true then [(c : Int)] else []) ∧ Kp w0 w') ?_ fun k' hk' => ?_
  · rintro v w' ⟨ho, kk⟩
    rw [r_add _ _ (by omega) (by omega)]
    exact hn v w' ho kk
  cases hB : lineB l c with
  | false =>
    rw [hB] at hk'
    simp only [r_condF]
    exact hk' _ _ ⟨by simpa using hP, hk⟩
  | true =>
    rw [hB] at hk'
    simp only [r_condT]
    refine r_pushRec (x := (c : Int)) slt30 iC_len rfl (bs30 _ _ _) (by intro u hu; simp [iC] at hu; rw [hu]; rfl) (by omega) hP (by omega) hk.size fun v w' ho hch _ => ?_
    exact hk' _ _ ⟨by simpa using ho, Kp.of_chg hk hch fun k e => (hP.lt e).1⟩

set_option maxRecDepth 100000 in
theorem lines_calls {sv : Value} {l : List Tile} (w : World) (hr : RdT w sv l) (hl : l.length ≤ 1000) : Calls Try.prog 70 #[sv] w fun e w' => ∃ v, e = .returned v ∧ IntsAt w.heap.size w' v (lineL l) ∧ Kp w w' := by
  refine lift70 ?_
  unfold S70 S70L0
  refine ⟨fun t3 t4 wr => ∃ c : Nat, c ≤ 8 ∧ t4 = .int .i64 c ∧ IntsAt w.heap.size wr t3 (((List.range c).filter (lineB l)).map fun c : Nat => (c : Int)) ∧ Kp w wr, fun _ t4 _ => 8 - (intOf t4).toNat, ⟨0, by omega, rfl, RecAt.nil, Kp.refl _⟩, ?_⟩
  rintro _ t3 _ wr ⟨c, hc, rfl, hP, kr⟩
  by_cases hlt : c < 8
  case neg =>
    have hlt' : ¬ (c : Int) ≤ 7 := by omega
    have ec : c = 8 := by omega
    subst ec
    simp (disch := omega) only [r_ln, r_pick, r_pickT, r_pickF, r_condT, r_condF, r_gdTT, r_gdFF, r_gdTF, r_gdFT, r_gqTT, r_gqFF, r_gqTF, r_gqFT, r_not, r_lss, r_leq, r_gtr, r_geq, r_eql, r_neq, r_add, r_sub, r_min2, r_max2, r_min3, r_max3, r_fa, r_iaS, r_iaA, r_ex2a, r_ex2b, r_ex3a, r_ex3b, r_ex3c, r_nc, r_keepE, Nat.zero_add, Nat.add_zero, Nat.mul_one, Int.toNat_natCast, toNat_sub1, toNat_add1, decide_true, decide_false, Bool.not_true, Bool.not_false, if_true, if_false, Bool.false_eq_true, reduceCtorEq, hlt']
    exact ⟨_, rfl, hP, kr⟩
  have hlt' : (c : Int) ≤ 7 := by omega
  simp (disch := omega) only [r_ln, r_pick, r_pickT, r_pickF, r_condT, r_condF, r_gdTT, r_gdFF, r_gdTF, r_gdFT, r_gqTT, r_gqFF, r_gqTF, r_gqFT, r_not, r_lss, r_leq, r_gtr, r_geq, r_eql, r_neq, r_add, r_sub, r_min2, r_max2, r_min3, r_max3, r_fa, r_iaS, r_iaA, r_ex2a, r_ex2b, r_ex3a, r_ex3b, r_ex3c, r_nc, r_keepE, Nat.zero_add, Nat.add_zero, Nat.mul_one, Int.toNat_natCast, toNat_sub1, toNat_add1, decide_true, decide_false, Bool.not_true, Bool.not_false, if_true, if_false, Bool.false_eq_true, reduceCtorEq, decide_eq_true hlt']
  have hPl : (((List.range c).filter (lineB l)).map fun c : Nat => (c : Int)).length ≤ c := by
    rw [List.length_map]
    have := List.length_filter_le (lineB l) (List.range c)
    simpa using this
  refine r70_1 hr hl hP (by omega) (by omega) kr fun v w' ho kk => ?_
  refine ⟨⟨c + 1, by omega, by go_num, ?_, kk⟩, by simp only [intOf]; omega⟩
  rw [List.range_succ, List.filter_append, List.map_append]
  by_cases h : lineB l c = true
  · rw [if_pos h] at ho
    simpa [h] using ho
  · rw [if_neg h] at ho
    simpa [h] using ho

def putV (o : Option Nat) : Int := match o with
  | none => -1
  | some s => (s : Int)

end Go.Proofs.Ytgalbokmgffhkaa
