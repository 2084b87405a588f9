/- Texts of my own, merged by program: D9 D10 D11. -/
import Derived.Test.YtgalbokmgffhkaaM11
import Derived.Test.YtgalbokmgffhkaaM07
import Derived.Test.YtgalbokmgffhkaaM08
import Derived.Test.YtgalbokmgffhkaaM06
set_option linter.all false
/- Contract: Machine of the program. -/
namespace Go.Proofs.Ytgalbokmgffhkaa
open Go.Lf Go.RowKit Go.Wg

set_option maxRecDepth 100000 in
theorem r39_3 {w2 w : World} {b1 s : Nat} {tv v : Value} {T : List Ent} {P : List Tile} {R : Ending → World → Prop}
    (h1 : w2.heap[b1]? = some (.cells #[.int .i64 s, tv] 51 (0, 0))) (hr : RdE w2 tv T) (hs : s ≤ 2) (hT : T.length = 2 * s) (hE : ∀ x ∈ T, -1 ≤ x.2.2 ∧ x.2.2 < s) (hP : TlAt w2.heap.size w v P) (hl : P.length ≤ 50) (k : Kp w2 w)
    (hn : ∀ v' w', TlAt w2.heap.size w' v' (P ++ (List.range s).flatMap (mtB s T)) → Kp w2 w' → R (.returned (.tuple #[v', .int .i64 0])) w') :
    S39L3 (pb b1) v (.int .i64 s) R w := by
  unfold S39L3
  refine ⟨fun t4 t8 wz => ∃ q : Nat, q ≤ s ∧ t8 = .int .i64 q ∧ TlAt w2.heap.size wz t4 (P ++ (List.range q).flatMap (mtB s T)) ∧ Kp w2 wz, fun _ t8 _ => s - (intOf t8).toNat, ⟨0, by omega, rfl, by simpa using hP, k⟩, ?_⟩
  rintro _ t4 _ wz ⟨q, hq, rfl, hPq, kz⟩
  have hlq : ((List.range q).flatMap (mtB s T)).length ≤ q * 2 := fl_le _ 2 (fun q => mtB_le s T q) q
  by_cases hql : q < s
  case neg =>
    have hql' : ¬ (q : Int) < (s : Int) := by omega
    have eq : q = s := by omega
    subst eq
    simp (disch := omega) only [r_ln, r_pick, r_pickT, r_pickF, r_condT, r_condF, r_gdTT, r_gdFF, r_gdTF, r_gdFT, r_gqTT, r_gqFF, r_gqTF, r_gqFT, r_not, r_lss, r_leq, r_gtr, r_geq, r_eql, r_neq, r_add, r_sub, r_min2, r_max2, r_min3, r_max3, r_fa, r_iaS, r_iaA, r_ex2a, r_ex2b, r_ex3a, r_ex3b, r_ex3c, r_nc, r_keepE, Nat.zero_add, Nat.add_zero, Nat.mul_one, Int.toNat_natCast, toNat_sub1, toNat_add1, decide_true, decide_false, Bool.not_true, Bool.not_false, if_true, if_false, Bool.false_eq_true, reduceCtorEq, hql']
    exact hn t4 wz hPq kz
  have hql' : (q : Int) < (s : Int) := by omega
  simp (disch := omega) only [r_ln, r_pick, r_pickT, r_pickF, r_condT, r_condF, r_gdTT, r_gdFF, r_gdTF, r_gdFT, r_gqTT, r_gqFF, r_gqTF, r_gqFT, r_not, r_lss, r_leq, r_gtr, r_geq, r_eql, r_neq, r_add, r_sub, r_min2, r_max2, r_min3, r_max3, r_fa, r_iaS, r_iaA, r_ex2a, r_ex2b, r_ex3a, r_ex3b, r_ex3c, r_nc, r_keepE, Nat.zero_add, Nat.add_zero, Nat.mul_one, Int.toNat_natCast, toNat_sub1, toNat_add1, decide_true, decide_false, Bool.not_true, Bool.not_false, if_true, if_false, Bool.false_eq_true, reduceCtorEq, decide_eq_true hql']
  refine r39_4 h1 hr hs hql hT hE hPq (by simp only [List.length_append]; omega) kz fun v' w' ho kk => ?_
  refine ⟨⟨q + 1, by omega, by go_num, ?_, kk⟩, by simp only [intOf]; omega⟩
  rw [fl_succ, ← List.append_assoc]
  exact ho

set_option maxRecDepth 100000 in
theorem r39_1 {w2 w : World} {b1 s : Nat} {tv v : Value} {T : List Ent} {P : List Tile} {R : Ending → World → Prop}
    (h1 : w2.heap[b1]? = some (.cells #[.int .i64 s, tv] 51 (0, 0))) (hr : RdE w2 tv T) (hs : s ≤ 2) (hT : T.length = 2 * s) (hE : ∀ x ∈ T, -1 ≤ x.2.2 ∧ x.2.2 < s) (hP : TlAt w2.heap.size w v P) (hl : P.length ≤ 20) (k : Kp w2 w)
    (hn : ∀ v' w', TlAt w2.heap.size w' v' (P ++ (List.range 2).flatMap (mtA s) ++ (List.range s).flatMap (mtB s T)) → Kp w2 w' → R (.returned (.tuple #[v', .int .i64 0])) w') :
    S39L1 (pb b1) v R w := by
  unfold S39L1
  refine ⟨fun t4 t6 wz => ∃ i : Nat, i ≤ 2 ∧ t6 = .int .i64 i ∧ TlAt w2.heap.size wz t4 (P ++ (List.range i).flatMap (mtA s)) ∧ Kp w2 wz, fun _ t6 _ => 2 - (intOf t6).toNat, ⟨0, by omega, rfl, by simpa using hP, k⟩, ?_⟩
  rintro _ t4 _ wz ⟨i, hi, rfl, hPi, kz⟩
  have cS : wz.cell? ⟨b1, 0, none⟩ = some (.int .i64 s) := by rw [cell_row (block_below h1 kz)]; rfl
  have hli : ((List.range i).flatMap (mtA s)).length ≤ i * 4 := fl_le _ 4 (fun q => by have := mtA_le s q; omega) i
  by_cases hil : i < 2
  case neg =>
    have hil' : ¬ (i : Int) < 2 := by omega
    have ei : i = 2 := by omega
    subst ei
    simp (disch := omega) only [r_ln, r_pick, r_pickT, r_pickF, r_condT, r_condF, r_gdTT, r_gdFF, r_gdTF, r_gdFT, r_gqTT, r_gqFF, r_gqTF, r_gqFT, r_not, r_lss, r_leq, r_gtr, r_geq, r_eql, r_neq, r_add, r_sub, r_min2, r_max2, r_min3, r_max3, r_fa, r_iaS, r_iaA, r_ex2a, r_ex2b, r_ex3a, r_ex3b, r_ex3c, r_nc, r_keepE, Nat.zero_add, Nat.add_zero, Nat.mul_one, Int.toNat_natCast, toNat_sub1, toNat_add1, decide_true, decide_false, Bool.not_true, Bool.not_false, if_true, if_false, Bool.false_eq_true, reduceCtorEq, r_ld cS, hil']
    exact r39_3 h1 hr hs hT hE hPi (by simp only [List.length_append]; omega) kz hn
  have hil' : (i : Int) < 2 := by omega
  simp (disch := omega) only [r_ln, r_pick, r_pickT, r_pickF, r_condT, r_condF, r_gdTT, r_gdFF, r_gdTF, r_gdFT, r_gqTT, r_gqFF, r_gqTF, r_gqFT, r_not, r_lss, r_leq, r_gtr, r_geq, r_eql, r_neq, r_add, r_sub, r_min2, r_max2, r_min3, r_max3, r_fa, r_iaS, r_iaA, r_ex2a, r_ex2b, r_ex3a, r_ex3b, r_ex3c, r_nc, r_keepE, Nat.zero_add, Nat.add_zero, Nat.mul_one, Int.toNat_natCast, toNat_sub1, toNat_add1, decide_true, decide_false, Bool.not_true, Bool.not_false, if_true, if_false, Bool.false_eq_true, reduceCtorEq, r_ld cS, decide_eq_true hil']
  refine r39_2 h1 hs hil hPi (by simp only [List.length_append]; omega) kz fun v' w' ho kk => ?_
  refine ⟨⟨i + 1, by omega, by go_num, ?_, kk⟩, by simp only [intOf]; omega⟩
  rw [fl_succ, ← List.append_assoc]
  exact ho

set_option maxRecDepth 100000 in
theorem r39_0 {w2 : World} {b1 s : Nat} {tv : Value} {T : List Ent} {R : Ending → World → Prop}
    (h1 : w2.heap[b1]? = some (.cells #[.int .i64 s, tv] 51 (0, 0))) (hr : RdE w2 tv T) (hs : s ≤ 2) (hT : T.length = 2 * s) (hE : ∀ x ∈ T, -1 ≤ x.2.2 ∧ x.2.2 < s)
    (hn : ∀ v' w', TlAt w2.heap.size w' v' (machT s T) → Kp w2 w' → R (.returned (.tuple #[v', .int .i64 0])) w') :
    S39L0 (pb b1) R w2 := by
  unfold S39L0
  refine ⟨fun t4 t5 wr => ∃ i : Nat, i ≤ 2 ∧ t5 = .int .i64 i ∧ TlAt w2.heap.size wr t4 ((List.range i).map f1) ∧ Kp w2 wr, fun _ t5 _ => 2 - (intOf t5).toNat, ⟨0, by omega, rfl, RecAt.nil, Kp.refl _⟩, ?_⟩
  rintro _ t4 _ wr ⟨i, hi, rfl, hP, kr⟩
  by_cases hlt : i < 2
  case pos =>
    have hlt' : (i : Int) < 2 := by omega
    simp (disch := omega) only [r_ln, r_pick, r_pickT, r_pickF, r_condT, r_condF, r_gdTT, r_gdFF, r_gdTF, r_gdFT, r_gqTT, r_gqFF, r_gqTF, r_gqFT, r_not, r_lss, r_leq, r_gtr, r_geq, r_eql, r_neq, r_add, r_sub, r_min2, r_max2, r_min3, r_max3, r_fa, r_iaS, r_iaA, r_ex2a, r_ex2b, r_ex3a, r_ex3b, r_ex3c, r_nc, r_keepE, Nat.zero_add, Nat.add_zero, Nat.mul_one, Int.toNat_natCast, toNat_sub1, toNat_add1, decide_true, decide_false, Bool.not_true, Bool.not_false, if_true, if_false, Bool.false_eq_true, reduceCtorEq, decide_eq_true hlt', bdA]
    refine r_pushT (w1 := w2) (t := f1 i) hP (by simp; omega) kr fun v' w' ho kk => ?_
    try simp (disch := omega) only [r_ln, r_pick, r_pickT, r_pickF, r_condT, r_condF, r_gdTT, r_gdFF, r_gdTF, r_gdFT, r_gqTT, r_gqFF, r_gqTF, r_gqFT, r_not, r_lss, r_leq, r_gtr, r_geq, r_eql, r_neq, r_add, r_sub, r_min2, r_max2, r_min3, r_max3, r_fa, r_iaS, r_iaA, r_ex2a, r_ex2b, r_ex3a, r_ex3b, r_ex3c, r_nc, r_keepE, Nat.zero_add, Nat.add_zero, Nat.mul_one, Int.toNat_natCast, toNat_sub1, toNat_add1, decide_true, decide_false, Bool.not_true, Bool.not_false, if_true, if_false, Bool.false_eq_true, reduceCtorEq]
    refine ⟨⟨i + 1, by omega, by go_num, ?_, kk⟩, by simp only [intOf]; omega⟩
    rw [List.range_succ, List.map_append]
    exact ho
  have hlt' : ¬ (i : Int) < 2 := by omega
  have ei : i = 2 := by omega
  subst ei
  rw [← mt1_eq] at hP
  simp (disch := omega) only [r_ln, r_pick, r_pickT, r_pickF, r_condT, r_condF, r_gdTT, r_gdFF, r_gdTF, r_gdFT, r_gqTT, r_gqFF, r_gqTF, r_gqFT, r_not, r_lss, r_leq, r_gtr, r_geq, r_eql, r_neq, r_add, r_sub, r_min2, r_max2, r_min3, r_max3, r_fa, r_iaS, r_iaA, r_ex2a, r_ex2b, r_ex3a, r_ex3b, r_ex3c, r_nc, r_keepE, Nat.zero_add, Nat.add_zero, Nat.mul_one, Int.toNat_natCast, toNat_sub1, toNat_add1, decide_true, decide_false, Bool.not_true, Bool.not_false, if_true, if_false, Bool.false_eq_true, reduceCtorEq, hlt']
  exact r39_1 h1 hr hs hT hE hP (by show 2 ≤ 20; omega) kr hn

set_option maxRecDepth 100000 in
theorem machine39_calls {S : Int} {tv : Value} {T : List Ent} (w : World) (hr : RdE w tv T) (hT : T.length ≤ 1000) : Calls Try.prog 39 #[macV S tv] w fun e w' => Kp w w' ∧ MacPost S T w.heap.size w' e := by
  obtain ⟨ta, tcap, rfl, _⟩ := hr.len
  refine lift39 ?_
  unfold S39
  refine r_box fun b1 w1 e1 s1 h1 k1 => ?_
  have h1' : w1.heap[b1]? = some (.cells #[.int .i64 S, .slice ta T.length tcap] 51 (0, 0)) := h1
  rw [r_ldRow (n := 2) h1' rfl]
  refine r_use fok89 (machine_calls (T := T) w1 (hr.kp k1) hT) rfl ?_
  rintro _ w2 ⟨rfl, k2⟩
  refine ⟨_, rfl, ?_⟩
  have k02 := Kp.trans k1 k2
  have h12 := block_below h1' k2
  cases hm : macB S T with
  | false =>
    simp (disch := omega) only [r_ln, r_pick, r_pickT, r_pickF, r_condT, r_condF, r_gdTT, r_gdFF, r_gdTF, r_gdFT, r_gqTT, r_gqFF, r_gqTF, r_gqFT, r_not, r_lss, r_leq, r_gtr, r_geq, r_eql, r_neq, r_add, r_sub, r_min2, r_max2, r_min3, r_max3, r_fa, r_iaS, r_iaA, r_ex2a, r_ex2b, r_ex3a, r_ex3b, r_ex3c, r_nc, r_keepE, Nat.zero_add, Nat.add_zero, Nat.mul_one, Int.toNat_natCast, toNat_sub1, toNat_add1, decide_true, decide_false, Bool.not_true, Bool.not_false, if_true, if_false, Bool.false_eq_true, reduceCtorEq]
    exact ⟨k02, .inl ⟨hm, rfl⟩⟩
  | true =>
  obtain ⟨s, rfl, hs1, hs2, hTl, hTe⟩ := mac_of hm
  simp (disch := omega) only [r_ln, r_pick, r_pickT, r_pickF, r_condT, r_condF, r_gdTT, r_gdFF, r_gdTF, r_gdFT, r_gqTT, r_gqFF, r_gqTF, r_gqFT, r_not, r_lss, r_leq, r_gtr, r_geq, r_eql, r_neq, r_add, r_sub, r_min2, r_max2, r_min3, r_max3, r_fa, r_iaS, r_iaA, r_ex2a, r_ex2b, r_ex3a, r_ex3b, r_ex3c, r_nc, r_keepE, Nat.zero_add, Nat.add_zero, Nat.mul_one, Int.toNat_natCast, toNat_sub1, toNat_add1, decide_true, decide_false, Bool.not_true, Bool.not_false, if_true, if_false, Bool.false_eq_true, reduceCtorEq]
  refine r39_0 (T := T) h12 (hr.kp k02) hs2 hTl (fun x hx => (hTe x hx).2) fun v' w' ho kk => ?_
  exact ⟨Kp.trans k02 kk, .inr ⟨hm, v', rfl, ho.down k02.size⟩⟩

end Go.Proofs.Ytgalbokmgffhkaa

/- Contracts: Clone, numbers, sets; copies of integers. -/
namespace Go.Proofs.Ytgalbokmgffhkaa
open Go.Lf Go.RowKit Go.Wg

theorem bs30_0 (w : World) (K : Value → World → Prop) : bsW Try.prog 30 0 [] w K = K (.slice (some ⟨w.heap.size, 0, none⟩) 0 0) (w.alloc (.cells #[] 3)) := by kernel_rfl

theorem r_nilT {w : World} {K : Value → Prop} (h : K (.bool true)) : binQ Try.prog w .eql 30 true nilS nilS K := ⟨.bool true, fun w' _ => by kernel_rfl, h⟩
theorem r_nilF {w : World} {a : Addr} {n c : Nat} {K : Value → Prop} (h : K (.bool false)) : binQ Try.prog w .eql 30 true (.slice (some a) n c) nilS K := ⟨.bool false, fun w' _ => by kernel_rfl, h⟩

set_option maxRecDepth 100000 in
/-- append([]int{}, l...): a copy. -/
theorem r_copyI {w : World} {v : Value} {l : List Int} {K : Value → World → Prop} (hr : RdInts w v l) (hl : l.length ≤ 1000000)
    (hk : ∀ v' w', IntsAt w.heap.size w' v' l → Kp w w' → v' ≠ nilS → K v' w') :
    bsW Try.prog 30 0 [] w fun s w => semW Try.prog (apS [30, 30] 30 [s, v]) w K := by
  rw [bs30_0]
  have hk1 : Kp w (w.alloc (.cells #[] 3)) := below_alloc _
  have hown : (w.alloc (.cells #[] 3)).ownsRow w.heap.size 3 1 (.slice (some ⟨w.heap.size, 0, none⟩) 0 0) 0 [] := ⟨rfl, .inr ⟨w.heap.size, 0, #[], rfl, Nat.le_refl _, heap_alloc_new w _, Nat.le_refl _, by unfold maxLen; omega, rfl, rfl⟩⟩
  obtain ⟨a, cap, rfl, _, hh⟩ := hr.below hk1
  have hsz : w.heap.size ≤ (w.alloc (.cells #[] 3)).heap.size := hk1.size
  cases l with
  | nil => exact r_ap0 slt30 hown (hk _ _ hown hk1 (by intro e; cases e))
  | cons x l =>
    obtain ⟨b, off, rfl, hc⟩ := hh (by simp)
    refine r_ap (xs := []) (news := intCells (x :: l)) slt30 hown (by simp [intCells]) (fun j u hj => ?_) intCells_one (by simp at hl ⊢; omega) (by omega) hsz fun v' w' ho hg hn => ?_
    · have hlt : j < (x :: l).length := by
        have := (List.getElem?_eq_some_iff.1 hj).1
        simpa [intCells] using this
      rw [r_addr, hc j hlt]
      rw [← hj, intCells, List.getElem?_map, List.getElem?_eq_getElem hlt]
      rw [getD_lt _ _ _ hlt]; rfl
    · refine hk _ _ ?_ (Kp.of_chg hk1 (Chg.of_grown (S := fun k => k = w.heap.size) hg fun k e => by cases e; rfl) fun i e => by omega) fun e => ?_
      · have e2 : recCells iC (x :: l) = intCells (x :: l) := by rw [rec_ints]; rfl
        unfold IntsAt RecAt
        rw [e2]
        simpa using ho
      · have := (hn.1 e).2
        simp at this

set_option maxRecDepth 100000 in
/-- slices.Clone at integers. -/
theorem clone_calls {v : Value} {l : List Int} (w : World) (hr : RdInts w v l) (hl : l.length ≤ 1000000) : Calls Try.prog 79 #[v] w fun e w' => ∃ v', e = .returned v' ∧ IntsAt w.heap.size w' v' l ∧ Kp w w' := by
  have hr' := hr
  obtain ⟨a, cap, rfl, h1, hh⟩ := hr
  refine lift79 ?_
  unfold S79
  cases a with
  | some p =>
    refine r_nilF ?_
    simp only [r_ln, r_pick, r_pickT, r_pickF, r_condT, r_condF, r_gdTT, r_gdFF, r_gdTF, r_gdFT, r_gqTT, r_gqFF, r_gqTF, r_gqFT, r_not, r_lss, r_leq, r_gtr, r_geq, r_eql, r_neq, r_add, r_sub, r_min2, r_max2, r_min3, r_max3, r_fa, r_iaS, r_iaA, r_ex2a, r_ex2b, r_ex3a, r_ex3b, r_ex3c, r_nc, r_keepE, Nat.zero_add, Nat.add_zero, Nat.mul_one, Int.toNat_natCast, toNat_sub1, toNat_add1, decide_true, decide_false, Bool.not_true, Bool.not_false, if_true, if_false, Bool.false_eq_true, reduceCtorEq]
    exact r_copyI hr' hl fun v' w' ho hk _ => ⟨v', rfl, ho, hk⟩
  | none =>
    have e0 : l.length = 0 := by
      by_cases h : 0 < l.length
      · obtain ⟨b, off, e, _⟩ := hh h
        cases e
      · omega
    have el : l = [] := List.length_eq_zero_iff.1 e0
    subst el
    have hnil : binQ Try.prog w .eql 30 true (.slice none ([] : List Int).length cap) (.slice none 0 0) = fun K => binQ Try.prog w .eql 30 true (.slice none 0 cap) nilS K := rfl
    rw [hnil]
    refine ⟨.bool true, fun w' _ => by kernel_rfl, ?_⟩
    simp only [r_ln, r_pick, r_pickT, r_pickF, r_condT, r_condF, r_gdTT, r_gdFF, r_gdTF, r_gdFT, r_gqTT, r_gqFF, r_gqTF, r_gqFT, r_not, r_lss, r_leq, r_gtr, r_geq, r_eql, r_neq, r_add, r_sub, r_min2, r_max2, r_min3, r_max3, r_fa, r_iaS, r_iaA, r_ex2a, r_ex2b, r_ex3a, r_ex3b, r_ex3c, r_nc, r_keepE, Nat.zero_add, Nat.add_zero, Nat.mul_one, Int.toNat_natCast, toNat_sub1, toNat_add1, decide_true, decide_false, Bool.not_true, Bool.not_false, if_true, if_false, Bool.false_eq_true, reduceCtorEq]
    exact ⟨_, rfl, RecAt.nil, Kp.refl _⟩

set_option maxRecDepth 100000 in
/-- numbers: the same numbers? -/
theorem numbers_calls {va vb : Value} {la lb : List Int} (w : World) (ha : RdInts w va la) (hb : RdInts w vb lb) : Calls Try.prog 43 #[va, vb] w fun e w' => e = .returned (.bool (decide (la = lb))) ∧ Kp w w' := by
  obtain ⟨aa, ca, rfl, ha1, _⟩ := ha.len
  obtain ⟨ab, cb, rfl, hb1, _⟩ := hb.len
  refine lift43 ?_
  unfold S43
  by_cases hlen : (la.length : Int) = (lb.length : Int)
  case neg =>
    simp (disch := omega) only [r_ln, r_pick, r_pickT, r_pickF, r_condT, r_condF, r_gdTT, r_gdFF, r_gdTF, r_gdFT, r_gqTT, r_gqFF, r_gqTF, r_gqFT, r_not, r_lss, r_leq, r_gtr, r_geq, r_eql, r_neq, r_add, r_sub, r_min2, r_max2, r_min3, r_max3, r_fa, r_iaS, r_iaA, r_ex2a, r_ex2b, r_ex3a, r_ex3b, r_ex3c, r_nc, r_keepE, Nat.zero_add, Nat.add_zero, Nat.mul_one, Int.toNat_natCast, toNat_sub1, toNat_add1, decide_true, decide_false, Bool.not_true, Bool.not_false, if_true, if_false, Bool.false_eq_true, reduceCtorEq, hlen]
    exact ⟨ret_bool (decide_eq_false (fun e => hlen (by rw [e]))).symm, Kp.refl _⟩
  simp (disch := omega) only [r_ln, r_pick, r_pickT, r_pickF, r_condT, r_condF, r_gdTT, r_gdFF, r_gdTF, r_gdFT, r_gqTT, r_gqFF, r_gqTF, r_gqFT, r_not, r_lss, r_leq, r_gtr, r_geq, r_eql, r_neq, r_add, r_sub, r_min2, r_max2, r_min3, r_max3, r_fa, r_iaS, r_iaA, r_ex2a, r_ex2b, r_ex3a, r_ex3b, r_ex3c, r_nc, r_keepE, Nat.zero_add, Nat.add_zero, Nat.mul_one, Int.toNat_natCast, toNat_sub1, toNat_add1, decide_true, decide_false, Bool.not_true, Bool.not_false, if_true, if_false, Bool.false_eq_true, reduceCtorEq, decide_eq_true hlen]
  refine ⟨fun t5 wr => ∃ i : Nat, i ≤ la.length ∧ t5 = .int .i64 i ∧ la.take i = lb.take i ∧ Kp w wr, fun t5 _ => la.length - (intOf t5).toNat, ⟨0, by omega, rfl, by simp, Kp.refl _⟩, ?_⟩
  rintro _ _ wr ⟨i, hi, rfl, he, hk⟩
  by_cases hlt : i < la.length
  case neg =>
    have hlt' : ¬ (i : Int) < (la.length : Int) := by omega
    rw [List.take_of_length_le (by omega), List.take_of_length_le (by omega)] at he
    simp (disch := omega) only [r_ln, r_pick, r_pickT, r_pickF, r_condT, r_condF, r_gdTT, r_gdFF, r_gdTF, r_gdFT, r_gqTT, r_gqFF, r_gqTF, r_gqFT, r_not, r_lss, r_leq, r_gtr, r_geq, r_eql, r_neq, r_add, r_sub, r_min2, r_max2, r_min3, r_max3, r_fa, r_iaS, r_iaA, r_ex2a, r_ex2b, r_ex3a, r_ex3b, r_ex3c, r_nc, r_keepE, Nat.zero_add, Nat.add_zero, Nat.mul_one, Int.toNat_natCast, toNat_sub1, toNat_add1, decide_true, decide_false, Bool.not_true, Bool.not_false, if_true, if_false, Bool.false_eq_true, reduceCtorEq, hlt']
    exact ⟨ret_bool (decide_eq_true he).symm, hk⟩
  have hlt' : (i : Int) < (la.length : Int) := by omega
  have hltb : i < lb.length := by omega
  simp (disch := omega) only [r_ln, r_pick, r_pickT, r_pickF, r_condT, r_condF, r_gdTT, r_gdFF, r_gdTF, r_gdFT, r_gqTT, r_gqFF, r_gqTF, r_gqFT, r_not, r_lss, r_leq, r_gtr, r_geq, r_eql, r_neq, r_add, r_sub, r_min2, r_max2, r_min3, r_max3, r_fa, r_iaS, r_iaA, r_ex2a, r_ex2b, r_ex3a, r_ex3b, r_ex3c, r_nc, r_keepE, Nat.zero_add, Nat.add_zero, Nat.mul_one, Int.toNat_natCast, toNat_sub1, toNat_add1, decide_true, decide_false, Bool.not_true, Bool.not_false, if_true, if_false, Bool.false_eq_true, reduceCtorEq, decide_eq_true hlt']
  refine r_drew fun w2 k2 _ => ?_
  have k02 := Kp.trans hk k2
  obtain ⟨b1, o1, c1, e1, hc1⟩ := (ha.below k02).at hlt
  obtain ⟨b2, o2, c2, e2, hc2⟩ := (hb.below k02).at hltb
  cases e1
  cases e2
  have hi' : (i : Int).toNat = i := by omega
  simp (disch := omega) only [r_ln, r_pick, r_pickT, r_pickF, r_condT, r_condF, r_gdTT, r_gdFF, r_gdTF, r_gdFT, r_gqTT, r_gqFF, r_gqTF, r_gqFT, r_not, r_lss, r_leq, r_gtr, r_geq, r_eql, r_neq, r_add, r_sub, r_min2, r_max2, r_min3, r_max3, r_fa, r_iaS, r_iaA, r_ex2a, r_ex2b, r_ex3a, r_ex3b, r_ex3c, r_nc, r_keepE, Nat.zero_add, Nat.add_zero, Nat.mul_one, Int.toNat_natCast, toNat_sub1, toNat_add1, decide_true, decide_false, Bool.not_true, Bool.not_false, if_true, if_false, Bool.false_eq_true, reduceCtorEq, hi', r_ld hc1, r_ld hc2]
  rw [getD_lt _ _ _ hlt, getD_lt _ _ _ hltb]
  by_cases hx : la[i] = lb[i]
  · simp (disch := omega) only [r_ln, r_pick, r_pickT, r_pickF, r_condT, r_condF, r_gdTT, r_gdFF, r_gdTF, r_gdFT, r_gqTT, r_gqFF, r_gqTF, r_gqFT, r_not, r_lss, r_leq, r_gtr, r_geq, r_eql, r_neq, r_add, r_sub, r_min2, r_max2, r_min3, r_max3, r_fa, r_iaS, r_iaA, r_ex2a, r_ex2b, r_ex3a, r_ex3b, r_ex3c, r_nc, r_keepE, Nat.zero_add, Nat.add_zero, Nat.mul_one, Int.toNat_natCast, toNat_sub1, toNat_add1, decide_true, decide_false, Bool.not_true, Bool.not_false, if_true, if_false, Bool.false_eq_true, reduceCtorEq, decide_eq_true hx]
    refine ⟨⟨i + 1, by omega, by go_num, ?_, k02⟩, by simp only [intOf]; omega⟩
    rw [take_succ' _ _ hlt, take_succ' _ _ hltb, he, hx]
  · simp (disch := omega) only [r_ln, r_pick, r_pickT, r_pickF, r_condT, r_condF, r_gdTT, r_gdFF, r_gdTF, r_gdFT, r_gqTT, r_gqFF, r_gqTF, r_gqFT, r_not, r_lss, r_leq, r_gtr, r_geq, r_eql, r_neq, r_add, r_sub, r_min2, r_max2, r_min3, r_max3, r_fa, r_iaS, r_iaA, r_ex2a, r_ex2b, r_ex3a, r_ex3b, r_ex3c, r_nc, r_keepE, Nat.zero_add, Nat.add_zero, Nat.mul_one, Int.toNat_natCast, toNat_sub1, toNat_add1, decide_true, decide_false, Bool.not_true, Bool.not_false, if_true, if_false, Bool.false_eq_true, reduceCtorEq, hx]
    exact ⟨ret_bool (decide_eq_false (fun e => hx (by subst e; rfl))).symm, k02⟩

set_option maxRecDepth 100000 in
/-- sets: the same tiles? -/
theorem sets_calls {va vb : Value} {la lb : List Tile} (w : World) (ha : Rd 4 tlC w va la) (hb : Rd 4 tlC w vb lb) (hl : la.length ≤ 1000000) : Calls Try.prog 30 #[va, vb] w fun e w' => e = .returned (.bool (decide (la = lb))) ∧ Kp w w' := by
  obtain ⟨aa, ca, rfl, _⟩ := ha.len
  obtain ⟨ab, cb, rfl, _⟩ := hb.len
  refine lift30 ?_
  unfold S30
  by_cases hlen : (la.length : Int) = (lb.length : Int)
  case neg =>
    simp (disch := omega) only [r_ln, r_pick, r_pickT, r_pickF, r_condT, r_condF, r_gdTT, r_gdFF, r_gdTF, r_gdFT, r_gqTT, r_gqFF, r_gqTF, r_gqFT, r_not, r_lss, r_leq, r_gtr, r_geq, r_eql, r_neq, r_add, r_sub, r_min2, r_max2, r_min3, r_max3, r_fa, r_iaS, r_iaA, r_ex2a, r_ex2b, r_ex3a, r_ex3b, r_ex3c, r_nc, r_keepE, Nat.zero_add, Nat.add_zero, Nat.mul_one, Int.toNat_natCast, toNat_sub1, toNat_add1, decide_true, decide_false, Bool.not_true, Bool.not_false, if_true, if_false, Bool.false_eq_true, reduceCtorEq, hlen]
    exact ⟨ret_bool (decide_eq_false (fun e => hlen (by rw [e]))).symm, Kp.refl _⟩
  simp (disch := omega) only [r_ln, r_pick, r_pickT, r_pickF, r_condT, r_condF, r_gdTT, r_gdFF, r_gdTF, r_gdFT, r_gqTT, r_gqFF, r_gqTF, r_gqFT, r_not, r_lss, r_leq, r_gtr, r_geq, r_eql, r_neq, r_add, r_sub, r_min2, r_max2, r_min3, r_max3, r_fa, r_iaS, r_iaA, r_ex2a, r_ex2b, r_ex3a, r_ex3b, r_ex3c, r_nc, r_keepE, Nat.zero_add, Nat.add_zero, Nat.mul_one, Int.toNat_natCast, toNat_sub1, toNat_add1, decide_true, decide_false, Bool.not_true, Bool.not_false, if_true, if_false, Bool.false_eq_true, reduceCtorEq, decide_eq_true hlen]
  refine ⟨fun t5 wr => ∃ i : Nat, i ≤ la.length ∧ t5 = .int .i64 i ∧ la.take i = lb.take i ∧ Kp w wr, fun t5 _ => la.length - (intOf t5).toNat, ⟨0, by omega, rfl, by simp, Kp.refl _⟩, ?_⟩
  rintro _ _ wr ⟨i, hi, rfl, he, hk⟩
  by_cases hlt : i < la.length
  case neg =>
    have hlt' : ¬ (i : Int) < (la.length : Int) := by omega
    rw [List.take_of_length_le (by omega), List.take_of_length_le (by omega)] at he
    simp (disch := omega) only [r_ln, r_pick, r_pickT, r_pickF, r_condT, r_condF, r_gdTT, r_gdFF, r_gdTF, r_gdFT, r_gqTT, r_gqFF, r_gqTF, r_gqFT, r_not, r_lss, r_leq, r_gtr, r_geq, r_eql, r_neq, r_add, r_sub, r_min2, r_max2, r_min3, r_max3, r_fa, r_iaS, r_iaA, r_ex2a, r_ex2b, r_ex3a, r_ex3b, r_ex3c, r_nc, r_keepE, Nat.zero_add, Nat.add_zero, Nat.mul_one, Int.toNat_natCast, toNat_sub1, toNat_add1, decide_true, decide_false, Bool.not_true, Bool.not_false, if_true, if_false, Bool.false_eq_true, reduceCtorEq, hlt']
    exact ⟨ret_bool (decide_eq_true he).symm, hk⟩
  have hlt' : (i : Int) < (la.length : Int) := by omega
  have hltb : i < lb.length := by omega
  simp (disch := omega) only [r_ln, r_pick, r_pickT, r_pickF, r_condT, r_condF, r_gdTT, r_gdFF, r_gdTF, r_gdFT, r_gqTT, r_gqFF, r_gqTF, r_gqFT, r_not, r_lss, r_leq, r_gtr, r_geq, r_eql, r_neq, r_add, r_sub, r_min2, r_max2, r_min3, r_max3, r_fa, r_iaS, r_iaA, r_ex2a, r_ex2b, r_ex3a, r_ex3b, r_ex3c, r_nc, r_keepE, Nat.zero_add, Nat.add_zero, Nat.mul_one, Int.toNat_natCast, toNat_sub1, toNat_add1, decide_true, decide_false, Bool.not_true, Bool.not_false, if_true, if_false, Bool.false_eq_true, reduceCtorEq, decide_eq_true hlt']
  refine r_drew fun w2 k2 _ => ?_
  have k02 := Kp.trans hk k2
  obtain ⟨b1, o1, c1, e1, _, hc1⟩ := (ha.kp k02).at (List.getElem?_eq_getElem hlt)
  obtain ⟨b2, o2, c2, e2, _, hc2⟩ := (hb.kp k02).at (List.getElem?_eq_getElem hltb)
  cases e1
  cases e2
  have hi' : (i : Int).toNat = i := by omega
  simp (disch := omega) only [r_ln, r_pick, r_pickT, r_pickF, r_condT, r_condF, r_gdTT, r_gdFF, r_gdTF, r_gdFT, r_gqTT, r_gqFF, r_gqTF, r_gqFT, r_not, r_lss, r_leq, r_gtr, r_geq, r_eql, r_neq, r_add, r_sub, r_min2, r_max2, r_min3, r_max3, r_fa, r_iaS, r_iaA, r_ex2a, r_ex2b, r_ex3a, r_ex3b, r_ex3c, r_nc, r_keepE, Nat.zero_add, Nat.add_zero, Nat.mul_one, Int.toNat_natCast, toNat_sub1, toNat_add1, decide_true, decide_false, Bool.not_true, Bool.not_false, if_true, if_false, Bool.false_eq_true, reduceCtorEq, hi', r_ldCells (tlC_len _) hc1, r_ldCells (tlC_len _) hc2]
  have ev : ∀ t : Tile, Value.agg (tlC t).toArray = tlV t := fun t => rfl
  rw [ev, ev, r_ne32]
  by_cases hx : la[i] = lb[i]
  · simp (disch := omega) only [r_ln, r_pick, r_pickT, r_pickF, r_condT, r_condF, r_gdTT, r_gdFF, r_gdTF, r_gdFT, r_gqTT, r_gqFF, r_gqTF, r_gqFT, r_not, r_lss, r_leq, r_gtr, r_geq, r_eql, r_neq, r_add, r_sub, r_min2, r_max2, r_min3, r_max3, r_fa, r_iaS, r_iaA, r_ex2a, r_ex2b, r_ex3a, r_ex3b, r_ex3c, r_nc, r_keepE, Nat.zero_add, Nat.add_zero, Nat.mul_one, Int.toNat_natCast, toNat_sub1, toNat_add1, decide_true, decide_false, Bool.not_true, Bool.not_false, if_true, if_false, Bool.false_eq_true, reduceCtorEq, decide_eq_true hx]
    refine ⟨⟨i + 1, by omega, by go_num, ?_, k02⟩, by simp only [intOf]; omega⟩
    rw [take_succ' _ _ hlt, take_succ' _ _ hltb, he, hx]
  · simp (disch := omega) only [r_ln, r_pick, r_pickT, r_pickF, r_condT, r_condF, r_gdTT, r_gdFF, r_gdTF, r_gdFT, r_gqTT, r_gqFF, r_gqTF, r_gqFT, r_not, r_lss, r_leq, r_gtr, r_geq, r_eql, r_neq, r_add, r_sub, r_min2, r_max2, r_min3, r_max3, r_fa, r_iaS, r_iaA, r_ex2a, r_ex2b, r_ex3a, r_ex3b, r_ex3c, r_nc, r_keepE, Nat.zero_add, Nat.add_zero, Nat.mul_one, Int.toNat_natCast, toNat_sub1, toNat_add1, decide_true, decide_false, Bool.not_true, Bool.not_false, if_true, if_false, Bool.false_eq_true, reduceCtorEq, hx]
    exact ⟨ret_bool (decide_eq_false (fun e => hx (by subst e; rfl))).symm, k02⟩

end Go.Proofs.Ytgalbokmgffhkaa

/- What Run computes. -/
namespace Go.Proofs.Ytgalbokmgffhkaa
open Go.Lf Go.RowKit Go.Wg

abbrev MSt := List Int × Int × Int
def bitB (n : Int) : Bool := decide (0 ≤ n ∧ n ≤ 1)
/-- Does the machine go on? -/
def goes (x : MSt) : Prop := 0 ≤ x.2.2 ∧ 0 ≤ x.2.1 ∧ x.2.1 < x.1.length
instance (x : MSt) : Decidable (goes x) := inferInstanceAs (Decidable (_ ∧ _))
def entAt (T : List Ent) (x : MSt) : Ent := T.getD (2 * x.2.2 + x.1.getD x.2.1.toNat 0).toNat (0, false, -1)
def moved (e : Ent) (a : Int) : Int := if e.2.2 < 0 then a else if e.2.1 = true then a + 1 else a - 1
def stp (T : List Ent) (x : MSt) : MSt := if goes x then (x.1.set x.2.1.toNat (entAt T x).1, moved (entAt T x) x.2.1, (entAt T x).2.2) else x
def runM (T : List Ent) (x : MSt) : Nat → MSt
  | 0 => x
  | k + 1 => stp T (runM T x k)
theorem runM_stop {T : List Ent} {x : MSt} {i : Nat} (h : ¬ goes (runM T x i)) : ∀ k, i ≤ k → runM T x k = runM T x i
  | 0, hk => by have : i = 0 := by omega
                subst this; rfl
  | k + 1, hk => by
    by_cases e : i = k + 1
    · rw [e]
    · have := runM_stop h k (by omega)
      simp only [runM, this]
      rw [stp, if_neg h]

/-- What holds of every state. -/
structure MOk (s n : Nat) (x : MSt) (k : Nat) : Prop where
  len : x.1.length = n
  bits : ∀ c ∈ x.1, 0 ≤ c ∧ c ≤ 1
  q : -1 ≤ x.2.2 ∧ x.2.2 < s
  a : -(k : Int) ≤ x.2.1 ∧ x.2.1 ≤ k

structure TOk (s : Nat) (T : List Ent) : Prop where
  s1 : 1 ≤ s
  s2 : s ≤ 2
  len : T.length = 2 * s
  ent : ∀ x ∈ T, (0 ≤ x.1 ∧ x.1 ≤ 1) ∧ -1 ≤ x.2.2 ∧ x.2.2 < s

theorem entAt_get {s n k : Nat} {T : List Ent} {x : MSt} (hT : TOk s T) (h : MOk s n x k) (hg : goes x) :
    ∃ o : Nat, o ≤ 1 ∧ x.1.getD x.2.1.toNat 0 = o ∧ 2 * x.2.2.toNat + o < T.length ∧ T[2 * x.2.2.toNat + o]? = some (entAt T x) ∧ entAt T x ∈ T := by
  obtain ⟨g1, g2, g3⟩ := hg
  have hlt : x.2.1.toNat < x.1.length := by omega
  have hb := h.bits (x.1[x.2.1.toNat]) (List.getElem_mem hlt)
  have e1 : x.1.getD x.2.1.toNat 0 = x.1[x.2.1.toNat] := getD_lt _ _ _ hlt
  have hq := h.q
  have hl := hT.len
  have hlt2 : 2 * x.2.2.toNat + (x.1[x.2.1.toNat]).toNat < T.length := by omega
  have e2 : (2 * x.2.2 + x.1.getD x.2.1.toNat 0).toNat = 2 * x.2.2.toNat + (x.1[x.2.1.toNat]).toNat := by rw [e1]; omega
  have e3 : entAt T x = T[2 * x.2.2.toNat + (x.1[x.2.1.toNat]).toNat] := by rw [entAt, e2]; exact getD_lt _ _ _ hlt2
  refine ⟨(x.1[x.2.1.toNat]).toNat, by omega, by rw [e1]; omega, hlt2, ?_, ?_⟩
  · rw [e3]; exact List.getElem?_eq_getElem hlt2
  · rw [e3]; exact List.getElem_mem hlt2

theorem MOk.step {s n k : Nat} {T : List Ent} {x : MSt} (hT : TOk s T) (h : MOk s n x k) : MOk s n (stp T x) (k + 1) := by
  unfold stp
  have ha := h.a
  split
  · rename_i hg
    obtain ⟨o, ho, _, _, _, hm⟩ := entAt_get hT h hg
    have he := hT.ent _ hm
    refine ⟨by rw [List.length_set]; exact h.len, fun c hc => ?_, he.2, ?_⟩
    · rcases List.mem_or_eq_of_mem_set hc with h1 | h1
      · exact h.bits c h1
      · rw [h1]; exact he.1
    · show _ ≤ moved _ _ ∧ moved _ _ ≤ _
      unfold moved
      split
      · omega
      · split <;> omega
  · exact ⟨h.len, h.bits, h.q, by omega⟩
theorem MOk.run {s n : Nat} {T : List Ent} {x : MSt} (hT : TOk s T) (h : MOk s n x 0) : ∀ k, MOk s n (runM T x k) k
  | 0 => h
  | k + 1 => (MOk.run hT h k).step hT

def runOk (S : Int) (T : List Ent) (tape : List Int) (n : Int) : Bool := macB S T && sideB tape.length && tape.all bitB && decide (0 ≤ n ∧ n ≤ 4)
theorem runOk_iff {S : Int} {T : List Ent} {tape : List Int} {n : Int} : runOk S T tape n = true ↔ (macB S T = true ∧ sideB tape.length = true ∧ tape.all bitB = true ∧ 0 ≤ n ∧ n ≤ 4) := by
  simp only [runOk, Bool.and_eq_true, decide_eq_true_eq, and_assoc]
theorem bits_iff {tape : List Int} : tape.all bitB = true ↔ ∀ c ∈ tape, 0 ≤ c ∧ c ≤ 1 := by
  simp [bitB, List.all_eq_true]

/-- What Run returns. -/
def RunPost (S : Int) (T : List Ent) (tape : List Int) (n : Int) (base : Nat) (w' : World) (e : Ending) : Prop :=
  (runOk S T tape n = false ∧ e = .returned (.tuple #[nilS, .int .i64 0, .int .i64 0, .int .i64 2])) ∨
  (runOk S T tape n = true ∧ ∃ v, e = .returned (.tuple #[v, .int .i64 (runM T (tape, 0, 0) n.toNat).2.1, .int .i64 (runM T (tape, 0, 0) n.toNat).2.2, .int .i64 0]) ∧ IntsAt base w' v (runM T (tape, 0, 0) n.toNat).1)

theorem tOk_of {S : Int} {T : List Ent} (h : macB S T = true) : ∃ s : Nat, S = s ∧ TOk s T := by
  obtain ⟨s, e, h1, h2, h3, h4⟩ := mac_of h
  exact ⟨s, e, ⟨h1, h2, h3, h4⟩⟩
theorem mOk_start {s : Nat} {tape : List Int} (hs : 1 ≤ s) (hb : ∀ c ∈ tape, 0 ≤ c ∧ c ≤ 1) : MOk s tape.length (tape, 0, 0) 0 := ⟨rfl, hb, ⟨by show (-1 : Int) ≤ 0; omega, by show (0 : Int) < s; omega⟩, ⟨by simp, by simp⟩⟩

end Go.Proofs.Ytgalbokmgffhkaa
