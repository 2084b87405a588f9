/- Contract: Rows of the program. -/
import Derived.Test.YtgalbokmgffhkaaG3
import Derived.Test.YtgalbokmgffhkaaG1
import Derived.Test.YtgalbokmgffhkaaE6
import Derived.Test.YtgalbokmgffhkaaSh
set_option linter.all false
namespace Go.Proofs.Ytgalbokmgffhkaa
open Go.Lf Go.RowKit Go.Wg

theorem fok97 : fnOk Try.prog 97 = true := by kernel_rfl

theorem nocol96_call (x : Int) (w : World) (K : Value → World → Prop) (h : K (.bool (!colB x)) w) : callW Try.prog (.func (.func 96) #[] #[]) [.int .i64 x] w K := by
  have hc : Calls Try.prog 96 #[.int .i64 x] w fun r w' => r = .returned (.bool (!colB x)) ∧ w' = w := by
    refine lift96 ?_
    unfold S96
    refine r_use fok56 (colour_calls x w) rfl ?_
    rintro _ _ ⟨rfl, rfl⟩
    exact ⟨_, rfl, by simp only [r_ln, r_pick, r_pickT, r_pickF, r_condT, r_condF, r_gdTT, r_gdFF, r_gdTF, r_gdFT, r_gqTT, r_gqFF, r_gqTF, r_gqFT, r_not, r_lss, r_leq, r_gtr, r_geq, r_eql, r_neq, r_add, r_sub, r_min2, r_max2, r_min3, r_max3, r_fa, r_iaS, r_iaA, r_ex2a, r_ex2b, r_ex3a, r_ex3b, r_ex3c, r_nc, r_keepE, Nat.zero_add, Nat.add_zero, Nat.mul_one, Int.toNat_natCast, toNat_sub1, toNat_add1, decide_true, decide_false, Bool.not_true, Bool.not_false, if_true, if_false, Bool.false_eq_true, reduceCtorEq], rfl⟩
  refine r_use fok96 hc rfl ?_
  rintro _ w2 ⟨rfl, rfl⟩
  exact ⟨_, rfl, h⟩

set_option maxRecDepth 100000 in
/-- The loop that makes lists of numbers. -/
theorem r49_1 {w : World} {na : Option Addr} {nc B W : Nat} {cv : Value} {cs : List Int} {K : Ending → World → Prop} (hc : IntsAt B w cv cs) (hcs : ∀ c ∈ cs, 0 ≤ c ∧ c ≤ 4096) (hl : cs.length ≤ 100000) (hW : W ≤ 4)
    (hK : ∀ v w', IRows w.heap.size w' v (cs.map (colsL W)) → Kp w w' → K (.returned (.tuple #[v, .int .i64 0])) w') : S49L1 (.slice na W nc) cv (.int .i64 cs.length) K w := by
  unfold S49L1
  refine ⟨fun t9 t50 wr => ∃ i : Nat, i ≤ cs.length ∧ t50 = .int .i64 i ∧ IRows w.heap.size wr t9 ((cs.take i).map (colsL W)) ∧ Kp w wr, fun _ t50 _ => cs.length - (intOf t50).toNat, ⟨0, by omega, rfl, IRows.nil, Kp.refl _⟩, ?_⟩
  rintro _ t9 _ wr ⟨i, hi, rfl, hR, kr⟩
  by_cases hlt : i < cs.length
  case neg =>
    have hlt' : ¬ (i : Int) < (cs.length : Int) := by omega
    rw [List.take_of_length_le (by omega)] at hR
    simp (disch := omega) only [r_ln, r_pick, r_pickT, r_pickF, r_condT, r_condF, r_gdTT, r_gdFF, r_gdTF, r_gdFT, r_gqTT, r_gqFF, r_gqTF, r_gqFT, r_not, r_lss, r_leq, r_gtr, r_geq, r_eql, r_neq, r_add, r_sub, r_min2, r_max2, r_min3, r_max3, r_fa, r_iaS, r_iaA, r_ex2a, r_ex2b, r_ex3a, r_ex3b, r_ex3c, r_nc, r_keepE, Nat.zero_add, Nat.add_zero, Nat.mul_one, Int.toNat_natCast, toNat_sub1, toNat_add1, decide_true, decide_false, Bool.not_true, Bool.not_false, if_true, if_false, Bool.false_eq_true, reduceCtorEq, hlt']
    exact hK _ _ hR kr
  have hlt' : (i : Int) < (cs.length : Int) := by omega
  obtain ⟨b, off, cap, ev, _, hcell⟩ := ((hc.kp kr).rd iC_len).at (List.getElem?_eq_getElem hlt)
  subst ev
  have c0 : wr.cell? ⟨b, off + i, none⟩ = some (.int .i64 cs[i]) := by
    have := hcell 0 _ rfl
    simpa [iC] using this
  have hb := hcs _ (List.getElem_mem hlt)
  have hii : (i : Int).toNat = i := by omega
  simp (disch := omega) only [r_ln, r_pick, r_pickT, r_pickF, r_condT, r_condF, r_gdTT, r_gdFF, r_gdTF, r_gdFT, r_gqTT, r_gqFF, r_gqTF, r_gqFT, r_not, r_lss, r_leq, r_gtr, r_geq, r_eql, r_neq, r_add, r_sub, r_min2, r_max2, r_min3, r_max3, r_fa, r_iaS, r_iaA, r_ex2a, r_ex2b, r_ex3a, r_ex3b, r_ex3c, r_nc, r_keepE, Nat.zero_add, Nat.add_zero, Nat.mul_one, Int.toNat_natCast, toNat_sub1, toNat_add1, decide_true, decide_false, Bool.not_true, Bool.not_false, if_true, if_false, Bool.false_eq_true, reduceCtorEq, decide_eq_true hlt', hii, r_ld c0]
  refine r_use fok83 (colours_calls wr hW hb.1 hb.2) rfl ?_
  rintro _ w2 ⟨v2, rfl, k2, o2⟩
  refine ⟨_, rfl, ?_⟩
  obtain ⟨a2, c2, rfl, _⟩ := o2.len
  have kr2 := Kp.trans kr k2
  refine r_pushRow (hR.kp k2) (o2.down kr.size) (by rw [List.length_map, List.length_take]; omega) kr2.size fun v3 w3 o3 c3 _ => ?_
  obtain ⟨vs, p1, _, _⟩ := hR.kp k2
  have k3 : Kp w w3 := Kp.of_chg kr2 c3 fun k e => (p1.lt e).1
  try simp (disch := omega) only [r_ln, r_pick, r_pickT, r_pickF, r_condT, r_condF, r_gdTT, r_gdFF, r_gdTF, r_gdFT, r_gqTT, r_gqFF, r_gqTF, r_gqFT, r_not, r_lss, r_leq, r_gtr, r_geq, r_eql, r_neq, r_add, r_sub, r_min2, r_max2, r_min3, r_max3, r_fa, r_iaS, r_iaA, r_ex2a, r_ex2b, r_ex3a, r_ex3b, r_ex3c, r_nc, r_keepE, Nat.zero_add, Nat.add_zero, Nat.mul_one, Int.toNat_natCast, toNat_sub1, toNat_add1, decide_true, decide_false, Bool.not_true, Bool.not_false, if_true, if_false, Bool.false_eq_true, reduceCtorEq]
  refine ⟨⟨i + 1, by omega, by go_num, ?_, k3⟩, by simp only [intOf]; omega⟩
  rw [take_succ' _ _ hlt, List.map_append]
  exact o3

theorem found_take {L : List Line} {i : Nat} {x : Line} {c : Int} (hx : L[i]? = some x) : foundL (L.take (i + 1)) c = foundL (L.take i) c ++ if x.2.1 = c then [x.2.2.1] else [] := by
  rw [List.take_add_one, hx, foundL, List.filter_append, List.map_append]
  congr 1
  by_cases h : x.2.1 = c
  · simp [h]
  · simp [h]

set_option maxRecDepth 100000 in
theorem r49_0 {w : World} {nv lv : Value} {n : List Int} {L : List Line} {K : Ending → World → Prop} (hL : RdL w lv L) (hLl : L.length ≤ 65536) (hlo : ∀ x ∈ L, 0 ≤ x.2.2.1 ∧ x.2.2.1 ≤ 4096) (hn : RdInts w nv n) (hnc : Cols n) (hnl : n.length ≤ 4)
    (hK : ∀ v w', IRows w.heap.size w' v ((Go.Lib.compact ((foundL L (code n)).mergeSort fun x y => decide (x ≤ y))).map (colsL n.length)) → Kp w w' → K (.returned (.tuple #[v, .int .i64 0])) w') : S49L0 nv lv (.int .i64 L.length) K w := by
  have hn' := hn
  obtain ⟨na, nc, rfl, _, _⟩ := hn.len
  unfold S49L0
  refine ⟨fun t6 t30 wr => ∃ i : Nat, i ≤ L.length ∧ t30 = .int .i64 i ∧ IntsAt w.heap.size wr t6 (foundL (L.take i) (code n)) ∧ Kp w wr, fun _ t30 _ => L.length - (intOf t30).toNat, ⟨0, by omega, rfl, RecAt.nil, Kp.refl _⟩, ?_⟩
  rintro _ t6 _ wr ⟨i, hi, rfl, hF, kr⟩
  have hFl : ∀ j, (foundL (L.take j) (code n)).length ≤ 65536 := fun j => by
    rw [foundL, List.length_map]
    exact Nat.le_trans (List.length_filter_le _ _) (by rw [List.length_take]; omega)
  by_cases hlt : i < L.length
  case neg =>
    have hlt' : ¬ (i : Int) < (L.length : Int) := by omega
    have hfl := hFl i
    rw [List.take_of_length_le (by omega)] at hF hfl
    simp (disch := omega) only [r_ln, r_pick, r_pickT, r_pickF, r_condT, r_condF, r_gdTT, r_gdFF, r_gdTF, r_gdFT, r_gqTT, r_gqFF, r_gqTF, r_gqFT, r_not, r_lss, r_leq, r_gtr, r_geq, r_eql, r_neq, r_add, r_sub, r_min2, r_max2, r_min3, r_max3, r_fa, r_iaS, r_iaA, r_ex2a, r_ex2b, r_ex3a, r_ex3b, r_ex3c, r_nc, r_keepE, Nat.zero_add, Nat.add_zero, Nat.mul_one, Int.toNat_natCast, toNat_sub1, toNat_add1, decide_true, decide_false, Bool.not_true, Bool.not_false, if_true, if_false, Bool.false_eq_true, reduceCtorEq, hlt']
    refine r_use fok97 (sortI_calls hF (by omega)) rfl ?_
    rintro _ w2 ⟨rfl, o2, c2⟩
    refine ⟨_, rfl, ?_⟩
    have k2 : Kp w w2 := Kp.of_chg kr c2 fun k e => (hF.lt e).1
    refine r_use fok98 (compI_calls o2 (by rw [List.length_mergeSort]; omega)) rfl ?_
    rintro _ w3 ⟨v3, rfl, o3, c3⟩
    refine ⟨_, rfl, ?_⟩
    have k3 : Kp w w3 := Kp.of_chg k2 c3 fun k e => (o2.lt e).1
    obtain ⟨a3, cap3, e3, _⟩ := o3.len
    have hmem : ∀ c ∈ Go.Lib.compact ((foundL L (code n)).mergeSort fun x y => decide (x ≤ y)), 0 ≤ c ∧ c ≤ 4096 := fun c hc => by
      rw [comp_mem, List.mem_mergeSort] at hc
      simp only [foundL, List.mem_map, List.mem_filter] at hc
      obtain ⟨x, ⟨hx, _⟩, rfl⟩ := hc
      exact hlo x hx
    have hlen : (Go.Lib.compact ((foundL L (code n)).mergeSort fun x y => decide (x ≤ y))).length ≤ 100000 := by
      have : (Go.Lib.compact ((foundL L (code n)).mergeSort fun x y => decide (x ≤ y))).length ≤ ((foundL L (code n)).mergeSort fun x y => decide (x ≤ y)).length := by
        unfold Go.Lib.compact Go.Lib.compactUpTo
        rw [List.length_map]
        exact Nat.le_trans (List.length_filter_le _ _) (by simp)
      rw [List.length_mergeSort] at this
      omega
    have hln : ∀ K : Value → Prop, ln1 v3 K = K (.int .i64 (Go.Lib.compact ((foundL L (code n)).mergeSort fun x y => decide (x ≤ y))).length) := fun K => by rw [e3]; rfl
    rw [hln]
    refine r49_1 o3 hmem hlen hnl fun v w' ho kk => hK v w' ?_ (Kp.trans k3 kk)
    obtain ⟨vs, q1, q2, q3⟩ := ho
    exact ⟨vs, q1.down k3.size, q2, fun i u r hu hr => (q3 i u r hu hr).down k3.size⟩
  have hlt' : (i : Int) < (L.length : Int) := by omega
  obtain ⟨x, hx⟩ : ∃ x, L[i]? = some x := ⟨_, List.getElem?_eq_getElem hlt⟩
  obtain ⟨lb, lo, lc, el, _, hld⟩ := RdL.line (hL.kp kr) hx
  subst el
  simp (disch := omega) only [r_ln, r_pick, r_pickT, r_pickF, r_condT, r_condF, r_gdTT, r_gdFF, r_gdTF, r_gdFT, r_gqTT, r_gqFF, r_gqTF, r_gqFT, r_not, r_lss, r_leq, r_gtr, r_geq, r_eql, r_neq, r_add, r_sub, r_min2, r_max2, r_min3, r_max3, r_fa, r_iaS, r_iaA, r_ex2a, r_ex2b, r_ex3a, r_ex3b, r_ex3c, r_nc, r_keepE, Nat.zero_add, Nat.add_zero, Nat.mul_one, Int.toNat_natCast, toNat_sub1, toNat_add1, decide_true, decide_false, Bool.not_true, Bool.not_false, if_true, if_false, Bool.false_eq_true, reduceCtorEq, decide_eq_true hlt', hld]
  refine r_box fun b8 w2 e8 s8 h8 k2 => ?_
  refine r_stAll (n := 7) (ty := 78) (by kernel_rfl) rfl (by intro u hu; simp [Value.cells] at hu; rcases hu with rfl | rfl | rfl | rfl | rfl | rfl | rfl <;> rfl) h8 rfl fun w3 c3 s3 h3 => ?_
  have kr3 : Kp wr w3 := Kp.of_chg k2 c3 fun i e => by omega
  refine r_drew fun w4 k4 _ => ?_
  have kr4 := Kp.trans kr3 k4
  have h4 := block_below h3 k4
  have c4 : w4.cell? ⟨b8, 4, none⟩ = some (.int .i64 x.2.1) := by rw [cell_row h4]; rfl
  simp (disch := omega) only [r_ln, r_pick, r_pickT, r_pickF, r_condT, r_condF, r_gdTT, r_gdFF, r_gdTF, r_gdFT, r_gqTT, r_gqFF, r_gqTF, r_gqFT, r_not, r_lss, r_leq, r_gtr, r_geq, r_eql, r_neq, r_add, r_sub, r_min2, r_max2, r_min3, r_max3, r_fa, r_iaS, r_iaA, r_ex2a, r_ex2b, r_ex3a, r_ex3b, r_ex3c, r_nc, r_keepE, Nat.zero_add, Nat.add_zero, Nat.mul_one, Int.toNat_natCast, toNat_sub1, toNat_add1, decide_true, decide_false, Bool.not_true, Bool.not_false, if_true, if_false, Bool.false_eq_true, reduceCtorEq, r_ld c4]
  refine r_use fok58 (number_calls w4 ((hn'.below kr).below kr4) hnc hnl) rfl ?_
  rintro _ _ ⟨rfl, rfl⟩
  refine ⟨_, rfl, Kp.refl _, ?_⟩
  have hF4 := hF.kp kr4
  have k04 := Kp.trans kr kr4
  have hft := found_take (c := code n) hx
  simp only [r_eql]
  refine r_join1 (fun v' w' => IntsAt w.heap.size w' v' (foundL (L.take (i + 1)) (code n)) ∧ Kp w w') ?_ fun k' hk' => ?_
  · rintro v' w' ⟨ho, kk⟩
    try simp (disch := omega) only [r_ln, r_pick, r_pickT, r_pickF, r_condT, r_condF, r_gdTT, r_gdFF, r_gdTF, r_gdFT, r_gqTT, r_gqFF, r_gqTF, r_gqFT, r_not, r_lss, r_leq, r_gtr, r_geq, r_eql, r_neq, r_add, r_sub, r_min2, r_max2, r_min3, r_max3, r_fa, r_iaS, r_iaA, r_ex2a, r_ex2b, r_ex3a, r_ex3b, r_ex3c, r_nc, r_keepE, Nat.zero_add, Nat.add_zero, Nat.mul_one, Int.toNat_natCast, toNat_sub1, toNat_add1, decide_true, decide_false, Bool.not_true, Bool.not_false, if_true, if_false, Bool.false_eq_true, reduceCtorEq]
    exact ⟨⟨i + 1, by omega, by go_num, ho, kk⟩, by simp only [intOf]; omega⟩
  rw [hft] at hk'
  by_cases hxc : x.2.1 = code n
  · rw [if_pos hxc] at hk'
    have c5 : w4.cell? ⟨b8, 5, none⟩ = some (.int .i64 x.2.2.1) := by rw [cell_row h4]; rfl
    simp (disch := omega) only [r_ln, r_pick, r_pickT, r_pickF, r_condT, r_condF, r_gdTT, r_gdFF, r_gdTF, r_gdFT, r_gqTT, r_gqFF, r_gqTF, r_gqFT, r_not, r_lss, r_leq, r_gtr, r_geq, r_eql, r_neq, r_add, r_sub, r_min2, r_max2, r_min3, r_max3, r_fa, r_iaS, r_iaA, r_ex2a, r_ex2b, r_ex3a, r_ex3b, r_ex3c, r_nc, r_keepE, Nat.zero_add, Nat.add_zero, Nat.mul_one, Int.toNat_natCast, toNat_sub1, toNat_add1, decide_true, decide_false, Bool.not_true, Bool.not_false, if_true, if_false, Bool.false_eq_true, reduceCtorEq, decide_eq_true hxc, r_ld c5]
    refine r_pushRec (x := x.2.2.1) slt30 iC_len rfl (bs30 _ _ _) (by intro u hu; simp [iC] at hu; rw [hu]; rfl) (by omega) hF4 (by have := hFl i; omega) k04.size fun v5 w5 o5 c5' _ => ?_
    exact hk' _ _ ⟨o5, Kp.of_chg k04 c5' fun k e => (hF4.lt e).1⟩
  · rw [if_neg hxc, List.append_nil] at hk'
    simp (disch := omega) only [r_ln, r_pick, r_pickT, r_pickF, r_condT, r_condF, r_gdTT, r_gdFF, r_gdTF, r_gdFT, r_gqTT, r_gqFF, r_gqTF, r_gqFT, r_not, r_lss, r_leq, r_gtr, r_geq, r_eql, r_neq, r_add, r_sub, r_min2, r_max2, r_min3, r_max3, r_fa, r_iaS, r_iaA, r_ex2a, r_ex2b, r_ex3a, r_ex3b, r_ex3c, r_nc, r_keepE, Nat.zero_add, Nat.add_zero, Nat.mul_one, Int.toNat_natCast, toNat_sub1, toNat_add1, decide_true, decide_false, Bool.not_true, Bool.not_false, if_true, if_false, Bool.false_eq_true, reduceCtorEq, hxc]
    exact hk' _ _ ⟨hF4, k04⟩

set_option maxRecDepth 100000 in
theorem rows49_calls {v nv : Value} {l : List Tile} {n : List Int} (w : World) (hr : RdT w v l) (hn : RdInts w nv n) : Calls Try.prog 49 #[v, nv] w fun e w' => Kp w w' ∧ RowsPost l n w.heap.size w' e := by
  have hn' := hn
  obtain ⟨na, nc, rfl, _, _⟩ := hn.len
  refine lift49 ?_
  unfold S49
  refine r_use fok65 (valid_calls w hr) rfl ?_
  rintro _ w1 ⟨rfl, k1⟩
  refine ⟨_, rfl, ?_⟩
  cases hs : setB l with
  | false =>
    simp (disch := omega) only [r_ln, r_pick, r_pickT, r_pickF, r_condT, r_condF, r_gdTT, r_gdFF, r_gdTF, r_gdFT, r_gqTT, r_gqFF, r_gqTF, r_gqFT, r_not, r_lss, r_leq, r_gtr, r_geq, r_eql, r_neq, r_add, r_sub, r_min2, r_max2, r_min3, r_max3, r_fa, r_iaS, r_iaA, r_ex2a, r_ex2b, r_ex3a, r_ex3b, r_ex3c, r_nc, r_keepE, Nat.zero_add, Nat.add_zero, Nat.mul_one, Int.toNat_natCast, toNat_sub1, toNat_add1, decide_true, decide_false, Bool.not_true, Bool.not_false, if_true, if_false, Bool.false_eq_true, reduceCtorEq]
    exact ⟨k1, .inl ⟨by rw [rowsOk, hs]; rfl, rfl⟩⟩
  | true =>
  simp (disch := omega) only [r_ln, r_pick, r_pickT, r_pickF, r_condT, r_condF, r_gdTT, r_gdFF, r_gdTF, r_gdFT, r_gqTT, r_gqFF, r_gqTF, r_gqFT, r_not, r_lss, r_leq, r_gtr, r_geq, r_eql, r_neq, r_add, r_sub, r_min2, r_max2, r_min3, r_max3, r_fa, r_iaS, r_iaA, r_ex2a, r_ex2b, r_ex3a, r_ex3b, r_ex3c, r_nc, r_keepE, Nat.zero_add, Nat.add_zero, Nat.mul_one, Int.toNat_natCast, toNat_sub1, toNat_add1, decide_true, decide_false, Bool.not_true, Bool.not_false, if_true, if_false, Bool.false_eq_true, reduceCtorEq]
  refine r_use fok66 (side_calls n.length w1) rfl ?_
  rintro _ _ ⟨rfl, rfl⟩
  refine ⟨_, rfl, ?_⟩
  cases hsd : sideB n.length with
  | false =>
    simp (disch := omega) only [r_ln, r_pick, r_pickT, r_pickF, r_condT, r_condF, r_gdTT, r_gdFF, r_gdTF, r_gdFT, r_gqTT, r_gqFF, r_gqTF, r_gqFT, r_not, r_lss, r_leq, r_gtr, r_geq, r_eql, r_neq, r_add, r_sub, r_min2, r_max2, r_min3, r_max3, r_fa, r_iaS, r_iaA, r_ex2a, r_ex2b, r_ex3a, r_ex3b, r_ex3c, r_nc, r_keepE, Nat.zero_add, Nat.add_zero, Nat.mul_one, Int.toNat_natCast, toNat_sub1, toNat_add1, decide_true, decide_false, Bool.not_true, Bool.not_false, if_true, if_false, Bool.false_eq_true, reduceCtorEq]
    exact ⟨k1, .inl ⟨by rw [rowsOk, hs, hsd]; rfl, rfl⟩⟩
  | true =>
  have hW : 1 ≤ n.length ∧ n.length ≤ 4 := by
    simp only [sideB, decide_eq_true_eq] at hsd
    omega
  simp (disch := omega) only [r_ln, r_pick, r_pickT, r_pickF, r_condT, r_condF, r_gdTT, r_gdFF, r_gdTF, r_gdFT, r_gqTT, r_gqFF, r_gqTF, r_gqFT, r_not, r_lss, r_leq, r_gtr, r_geq, r_eql, r_neq, r_add, r_sub, r_min2, r_max2, r_min3, r_max3, r_fa, r_iaS, r_iaA, r_ex2a, r_ex2b, r_ex3a, r_ex3b, r_ex3c, r_nc, r_keepE, Nat.zero_add, Nat.add_zero, Nat.mul_one, Int.toNat_natCast, toNat_sub1, toNat_add1, decide_true, decide_false, Bool.not_true, Bool.not_false, if_true, if_false, Bool.false_eq_true, reduceCtorEq]
  refine r_use fok54 (containsF_calls (fun x => !colB x) w1 (hn'.below k1) fun x _ w' K _ hK => nocol96_call x w' K (hK w' (Kp.refl _))) rfl ?_
  rintro _ w2 ⟨rfl, k2⟩
  refine ⟨_, rfl, ?_⟩
  rw [any_not]
  have k02 := Kp.trans k1 k2
  cases hcol : n.all colB with
  | false =>
    simp (disch := omega) only [r_ln, r_pick, r_pickT, r_pickF, r_condT, r_condF, r_gdTT, r_gdFF, r_gdTF, r_gdFT, r_gqTT, r_gqFF, r_gqTF, r_gqFT, r_not, r_lss, r_leq, r_gtr, r_geq, r_eql, r_neq, r_add, r_sub, r_min2, r_max2, r_min3, r_max3, r_fa, r_iaS, r_iaA, r_ex2a, r_ex2b, r_ex3a, r_ex3b, r_ex3c, r_nc, r_keepE, Nat.zero_add, Nat.add_zero, Nat.mul_one, Int.toNat_natCast, toNat_sub1, toNat_add1, decide_true, decide_false, Bool.not_true, Bool.not_false, if_true, if_false, Bool.false_eq_true, reduceCtorEq]
    exact ⟨k02, .inl ⟨by rw [rowsOk, hcol, Bool.and_false], rfl⟩⟩
  | true =>
  have hcols := all_cols hcol
  have hset := isSet_of hs
  simp (disch := omega) only [r_ln, r_pick, r_pickT, r_pickF, r_condT, r_condF, r_gdTT, r_gdFF, r_gdTF, r_gdFT, r_gqTT, r_gqFF, r_gqTF, r_gqFT, r_not, r_lss, r_leq, r_gtr, r_geq, r_eql, r_neq, r_add, r_sub, r_min2, r_max2, r_min3, r_max3, r_fa, r_iaS, r_iaA, r_ex2a, r_ex2b, r_ex3a, r_ex3b, r_ex3c, r_nc, r_keepE, Nat.zero_add, Nat.add_zero, Nat.mul_one, Int.toNat_natCast, toNat_sub1, toNat_add1, decide_true, decide_false, Bool.not_true, Bool.not_false, if_true, if_false, Bool.false_eq_true, reduceCtorEq]
  refine r_use fok59 (rows_calls hset hW w2 (hr.kp k02)) rfl ?_
  rintro _ w3 ⟨lv, rfl, k3, hL⟩
  refine ⟨_, rfl, ?_⟩
  change LnAt _ _ _ (linesL l n.length) at hL
  have k03 := Kp.trans k02 k3
  have hlo := lines_ok hset hW.2
  have hll := lines_len hset hW.2
  have h8 := pow8N_le hW.2
  have hrdL := hL.rd lnC_len
  obtain ⟨la, lcap, rfl, _⟩ := hL.len
  simp (disch := omega) only [r_ln, r_pick, r_pickT, r_pickF, r_condT, r_condF, r_gdTT, r_gdFF, r_gdTF, r_gdFT, r_gqTT, r_gqFF, r_gqTF, r_gqFT, r_not, r_lss, r_leq, r_gtr, r_geq, r_eql, r_neq, r_add, r_sub, r_min2, r_max2, r_min3, r_max3, r_fa, r_iaS, r_iaA, r_ex2a, r_ex2b, r_ex3a, r_ex3b, r_ex3c, r_nc, r_keepE, Nat.zero_add, Nat.add_zero, Nat.mul_one, Int.toNat_natCast, toNat_sub1, toNat_add1, decide_true, decide_false, Bool.not_true, Bool.not_false, if_true, if_false, Bool.false_eq_true, reduceCtorEq]
  refine r49_0 hrdL hll (fun x hx => ?_) (hn'.below k03) hcols hW.2 fun v' w' ho kk => ⟨Kp.trans k03 kk, .inr ⟨by rw [rowsOk, hs, hsd, hcol]; rfl, v', rfl, ?_⟩⟩
  · obtain ⟨_, x3, x4⟩ := hlo x hx
    have e8 : ((8 ^ n.length : Nat) : Int) ≤ 4096 := by exact_mod_cast h8
    omega
  · have hnc : ∀ x ∈ n, 0 ≤ x ∧ x ≤ 7 := fun x hx => hcols x hx
    rw [rows_eq hset.cols hnc] at ho
    exact ho.down k03.size

end Go.Proofs.Ytgalbokmgffhkaa
