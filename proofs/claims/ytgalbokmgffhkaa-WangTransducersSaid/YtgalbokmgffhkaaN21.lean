/- Texts of my own, merged by program: H4 H5 H6. -/
import Derived.Test.YtgalbokmgffhkaaN20
import Derived.Test.YtgalbokmgffhkaaN15
set_option linter.all false
/- Contract: Product of the program. -/
namespace Go.Proofs.Ytgalbokmgffhkaa
open Go.Lf Go.RowKit Go.Wg

theorem fok97' : fnOk Try.prog 97 = true := by kernel_rfl
theorem fok98' : fnOk Try.prog 98 = true := by kernel_rfl

set_option maxRecDepth 100000 in
set_option maxHeartbeats 800000 in
/-- The loop that puts numbers for colours. -/
theorem r50_2 {w0 w : World} {t6 cv : Value} {P : List Tile} {cs : List Int} {K : Ending → World → Prop} (hP : TlAt w0.heap.size w t6 P) (hc : IntsAt w0.heap.size w cv cs) (hcl : cs.length ≤ 1000) (hPl : P.length ≤ 1000) (hk : Kp w0 w)
    (hK : ∀ w', TlAt w0.heap.size w' t6 (P.map (renC cs)) → Kp w0 w' → K (.returned (.tuple #[t6, .int .i64 0])) w') : S50L2 t6 cv (.int .i64 P.length) K w := by
  unfold S50L2
  refine ⟨fun t wr => ∃ i : Nat, i ≤ P.length ∧ t = .int .i64 i ∧ TlAt w0.heap.size wr t6 ((P.take i).map (renC cs) ++ P.drop i) ∧ IntsAt w0.heap.size wr cv cs ∧ Kp w0 wr, fun t _ => P.length - (intOf t).toNat, ⟨0, by omega, rfl, by simpa using hP, hc, hk⟩, ?_⟩
  rintro _ _ wr ⟨i, hi, rfl, hR, hcr, kr⟩
  by_cases hlt : i < P.length
  case neg =>
    have hlt' : ¬ (i : Int) < (P.length : Int) := by omega
    rw [List.take_of_length_le (by omega), List.drop_eq_nil_of_le (by omega), List.append_nil] at hR
    simp (disch := omega) only [r_ln, r_pick, r_pickT, r_pickF, r_condT, r_condF, r_gdTT, r_gdFF, r_gdTF, r_gdFT, r_gqTT, r_gqFF, r_gqTF, r_gqFT, r_not, r_lss, r_leq, r_gtr, r_geq, r_eql, r_neq, r_add, r_sub, r_min2, r_max2, r_min3, r_max3, r_fa, r_iaS, r_iaA, r_ex2a, r_ex2b, r_ex3a, r_ex3b, r_ex3c, r_nc, r_keepE, Nat.zero_add, Nat.add_zero, Nat.mul_one, Int.toNat_natCast, toNat_sub1, toNat_add1, decide_true, decide_false, Bool.not_true, Bool.not_false, if_true, if_false, Bool.false_eq_true, reduceCtorEq, hlt']
    exact hK _ hR kr
  have hlt' : (i : Int) < (P.length : Int) := by omega
  have hlen : ((P.take i).map (renC cs) ++ P.drop i).length = P.length := by simp; omega
  have hat : ((P.take i).map (renC cs) ++ P.drop i)[i]? = some P[i] := by
    have hl : ((P.take i).map (renC cs)).length = i := by simp; omega
    rw [List.getElem?_append_right (by omega), hl, Nat.sub_self, List.getElem?_drop, Nat.add_zero, List.getElem?_eq_getElem hlt]
  have hset : ((P.take i).map (renC cs) ++ P.drop i).set i (renC cs P[i]) = (P.take (i + 1)).map (renC cs) ++ P.drop (i + 1) := by
    have hl : ((P.take i).map (renC cs)).length = i := by simp; omega
    rw [List.set_append_right _ _ (by omega), hl, Nat.sub_self, List.drop_eq_getElem_cons hlt, List.set_cons_zero, take_succ' _ _ hlt, List.map_append]
    simp
  generalize (P.take i).map (renC cs) ++ P.drop i = Q at *
  generalize hp : P[i] = p at *
  obtain ⟨b, off, cap, e6, _, hcell⟩ := (hR.rd tlC_len).at hat
  obtain ⟨g, cap', e6', hbg, _, _, _⟩ := RecAt.set (j := 1) (p' := (tN p, idxI cs (tE p), tS p, tW p)) (u := .int .i64 (idxI cs (tE p))) tlC_len hR hat (by omega) rfl
  rw [e6'] at e6
  have eb : b = g ∧ off = 0 ∧ cap = cap' := by
    injection e6 with h1 h2 h3
    injection h1 with h1
    injection h1 with h1 h2 _
    exact ⟨h1.symm, h2.symm, h3.symm⟩
  obtain ⟨rfl, rfl, rfl⟩ := eb
  have hown : t6.ownBlock = some b := by rw [e6']; rfl
  have hii : (i : Int).toNat = i := by omega
  rw [hlen] at e6'
  have hiaS : ∀ K : Value → Prop, iaS 4 t6 (.int .i64 i) K = K (.pointer (some ⟨b, 0 + i * 4, none⟩)) := fun K => by rw [e6', r_iaS _ _ _ _ _ _ _ (by omega) (by omega), hii]
  simp (disch := omega) only [r_lss, decide_eq_true hlt', r_condT]
  rw [hiaS, r_ldCells (tlC_len p) hcell]
  refine r_box fun b15 w2 e15 s15 h15 k15 => ?_
  refine r_stAll (n := 4) (ty := 32) (by kernel_rfl) rfl (by intro u hu; simp [Value.cells, tlC] at hu; rcases hu with rfl | rfl | rfl | rfl <;> rfl) h15 rfl fun w3 c3 s3 h3 => ?_
  have k3 : Kp wr w3 := Kp.of_chg k15 c3 fun q e => by omega
  refine r_drew fun w4 k4 _ => ?_
  have k34 := Kp.trans k3 k4
  have h4 := block_below h3 k4
  have gl := (hR.lt hown).2
  have nX : ¬ b15 = b := by omega
  have d1 : w4.cell? ⟨b15, 1, none⟩ = some (.int .i64 (tE p)) := by rw [cell_row h4]; rfl
  have d3 : w4.cell? ⟨b15, 3, none⟩ = some (.int .i64 (tW p)) := by rw [cell_row h4]; rfl
  refine ⟨fun q => q = b, ?_⟩
  simp only [r_tx, r_fa, Nat.zero_add, r_txl (X := fun q => q = b) d1 nX, r_txl (X := fun q => q = b) d3 nX]
  have hc4 := hcr.kp k34
  have hi4 : RdInts w4 cv cs := Rd.ints (hc4.rd iC_len) (by omega)
  refine r_use fok101 (idx101_calls (tE p) w4 hi4) rfl ?_
  rintro _ w5 ⟨rfl, k5⟩
  refine ⟨_, rfl, BX.of_below k5, ?_⟩
  refine r_use fok101 (idx101_calls (tW p) w5 (hi4.below k5)) rfl ?_
  rintro _ w6 ⟨rfl, k6⟩
  refine ⟨_, rfl, BX.of_below k6, ?_⟩
  have k36 := Kp.trans k34 (Kp.trans k5 k6)
  have hR6 := hR.kp k36
  obtain ⟨g1, cap1, e1, _, ⟨u1, cu1⟩, f1, o1⟩ := RecAt.set (j := 1) (p' := (tN p, idxI cs (tE p), tS p, tW p)) (u := .int .i64 (idxI cs (tE p))) tlC_len hR6 hat (by omega) rfl
  have hg1 : g1 = b := by
    rw [e1] at hown
    injection hown
  subst hg1
  have hat2 : (Q.set i (tN p, idxI cs (tE p), tS p, tW p))[i]? = some (tN p, idxI cs (tE p), tS p, tW p) := by
    rw [List.getElem?_set_self (by have := (List.getElem?_eq_some_iff.1 hat).1; exact this)]
  obtain ⟨g2, cap2, e2, _, ⟨u2, cu2⟩, f2, o2⟩ := RecAt.set (j := 3) (p' := renC cs p) (u := .int .i64 (idxI cs (tW p))) tlC_len o1 hat2 (by omega) rfl
  have hg2 : g2 = g1 := by
    rw [e2] at hown
    injection hown
  subst hg2
  have ha1 : (⟨g2, 0 + i * 4, none⟩ : Addr).add 1 = ⟨g2, i * 4 + 1, none⟩ := by rw [r_addr, Nat.zero_add]
  simp only [hiaS, r_tx, r_fa, Nat.zero_add]
  rw [st3 cu1 f1, r_keepWE]
  have hch : Chg (fun q => q = g2) w6 (w6.setCell ⟨g2, i * 4 + 1, none⟩ (.int .i64 (idxI cs (tE p)))) := Chg.setCell _ _ rfl
  refine ⟨BX.of_chg hch, ?_⟩
  try simp only [hiaS, r_tx, r_fa, Nat.zero_add]
  rw [st3 cu2 f2]
  have hch2 : Chg (fun q => q = g2) (w6.setCell ⟨g2, i * 4 + 1, none⟩ (.int .i64 (idxI cs (tE p)))) ((w6.setCell ⟨g2, i * 4 + 1, none⟩ (.int .i64 (idxI cs (tE p)))).setCell ⟨g2, i * 4 + 3, none⟩ (.int .i64 (idxI cs (tW p)))) := Chg.setCell _ _ rfl
  have hch12 := hch.trans hch2
  try simp (disch := omega) only [r_ln, r_pick, r_pickT, r_pickF, r_condT, r_condF, r_gdTT, r_gdFF, r_gdTF, r_gdFT, r_gqTT, r_gqFF, r_gqTF, r_gqFT, r_not, r_lss, r_leq, r_gtr, r_geq, r_eql, r_neq, r_add, r_sub, r_min2, r_max2, r_min3, r_max3, r_fa, r_iaS, r_iaA, r_ex2a, r_ex2b, r_ex3a, r_ex3b, r_ex3c, r_nc, r_keepE, Nat.zero_add, Nat.add_zero, Nat.mul_one, Int.toNat_natCast, toNat_sub1, toNat_add1, decide_true, decide_false, Bool.not_true, Bool.not_false, if_true, if_false, Bool.false_eq_true, reduceCtorEq]
  rw [List.set_set, hset] at o2
  refine ⟨⟨i + 1, by omega, by go_num, o2, (hcr.kp k36).chg hch12 fun q hq e => ?_, Kp.of_chg (Kp.trans kr k36) hch12 fun q e => by rw [e]; exact hbg⟩, by simp only [intOf]; omega⟩
  subst e
  exact rec_ne hR hcr (by decide) q hown hq

/-- What Product returns. -/
def ProdPost (a b : List Tile) (base : Nat) (w' : World) (e : Ending) : Prop :=
  ((setB a && setB b) = false ∧ e = .returned (.tuple #[nilS, .int .i64 2])) ∨
  ((setB a && setB b) = true ∧ prodF (allP a b) = true ∧ e = .returned (.tuple #[nilS, .int .i64 8])) ∨
  ((setB a && setB b) = true ∧ prodF (allP a b) = false ∧ ∃ v, e = .returned (.tuple #[v, .int .i64 0]) ∧ TlAt base w' v (prodT (allP a b)))

set_option maxRecDepth 100000 in
theorem r50_0 {w : World} {av bv : Value} {a b : List Tile} {K : Ending → World → Prop} (ha : RdT w av a) (hb : RdT w bv b) (hsa : IsSet a) (hsb : IsSet b)
    (hfull : ∀ w', Kp w w' → prodF (allP a b) = true → K (.returned (.tuple #[nilS, .int .i64 8])) w')
    (hK : ∀ v w', Kp w w' → prodF (allP a b) = false → TlAt w.heap.size w' v (prodT (allP a b)) → K (.returned (.tuple #[v, .int .i64 0])) w') : S50L0 av bv (.int .i64 a.length) K w := by
  have hb0 := hb
  obtain ⟨ba, bc, rfl, _⟩ := hb.len
  unfold S50L0
  have hal := hsa.most
  have hbl := hsb.most
  have hplen : ∀ i, (allP (a.take i) b).length ≤ 256 := fun i => by
    have h1 := allP_len (a := a.take i) (b := b)
    have h2 : (a.take i).length ≤ 16 := by rw [List.length_take]; omega
    have := Nat.mul_le_mul h2 hbl
    omega
  refine ⟨fun t6 t8 t26 wr => ∃ i : Nat, i ≤ a.length ∧ t26 = .int .i64 i ∧ TlAt w.heap.size wr t6 (once (allP (a.take i) b)) ∧ IntsAt w.heap.size wr t8 (ends (once (allP (a.take i) b))) ∧ Kp w wr, fun _ _ t26 _ => a.length - (intOf t26).toNat, ⟨0, by omega, rfl, RecAt.nil, RecAt.nil, Kp.refl _⟩, ?_⟩
  rintro _ t6 t8 _ wr ⟨i, hi, rfl, hT, hE, kr⟩
  by_cases hlt : i < a.length
  case pos =>
    have hlt' : (i : Int) < (a.length : Int) := by omega
    obtain ⟨ab, ao, ac, eav, _, hcell⟩ := (ha.kp kr).at (List.getElem?_eq_getElem hlt)
    subst eav
    have hii : (i : Int).toNat = i := by omega
    have hpre := hplen i
    have hst : allP (a.take (i + 1)) b = allP (a.take i) b ++ under1 b a[i] := by
      unfold allP
      rw [take_succ' _ _ hlt, List.flatMap_append]; simp
    have hsc := hsa.cols _ (List.getElem_mem hlt)
    generalize a[i] = s at *
    simp (disch := omega) only [r_lss, decide_eq_true hlt', r_condT, r_iaS, hii, r_ldCells (tlC_len s) hcell]
    refine r_box fun b10 w2 e10 s10 h10 k10 => ?_
    refine r_stAll (n := 4) (ty := 32) (by kernel_rfl) rfl (by intro u hu; simp [Value.cells, tlC] at hu; rcases hu with rfl | rfl | rfl | rfl <;> rfl) h10 rfl fun w3 c3 s3 h3 => ?_
    have k3 : Kp wr w3 := Kp.of_chg k10 c3 fun q e => by omega
    simp only [r_ln]
    refine r50_1 (w0 := w) (pre := allP (a.take i) b) ⟨hT.kp k3, hE.kp k3, Kp.trans kr k3, h3, fun q hq e => by have := (hT.lt hq).2; omega⟩ hb0 hsc hsb.cols hbl (by omega) (by omega) fun v6 v8 w' S' => ?_
    refine ⟨⟨i + 1, by omega, by go_num, ?_, ?_, S'.kp⟩, by simp only [intOf]; omega⟩
    · rw [hst]; exact S'.tl
    · rw [hst]; exact S'.ps
  have hlt' : ¬ (i : Int) < (a.length : Int) := by omega
  have hpre := hplen i
  rw [List.take_of_length_le (by omega)] at hT hE hpre
  have hok := allP_ok hsa.cols hsb.cols
  generalize allP a b = l at *
  have hol := once_len_le l
  have hel := ends_len (once l)
  simp (disch := omega) only [r_ln, r_pick, r_pickT, r_pickF, r_condT, r_condF, r_gdTT, r_gdFF, r_gdTF, r_gdFT, r_gqTT, r_gqFF, r_gqTF, r_gqFT, r_not, r_lss, r_leq, r_gtr, r_geq, r_eql, r_neq, r_add, r_sub, r_min2, r_max2, r_min3, r_max3, r_fa, r_iaS, r_iaA, r_ex2a, r_ex2b, r_ex3a, r_ex3b, r_ex3c, r_nc, r_keepE, Nat.zero_add, Nat.add_zero, Nat.mul_one, Int.toNat_natCast, toNat_sub1, toNat_add1, decide_true, decide_false, Bool.not_true, Bool.not_false, if_true, if_false, Bool.false_eq_true, reduceCtorEq, hlt']
  refine r_use fok97' (sortI_calls hE (by omega)) rfl ?_
  rintro _ w2 ⟨rfl, o2, c2⟩
  refine ⟨_, rfl, ?_⟩
  have k2 : Kp w w2 := Kp.of_chg kr c2 fun k e => (hE.lt e).1
  have hT2 := hT.chg c2 fun q hq e => rec_ne hE hT (by decide) q e hq
  refine r_use fok98' (compI_calls o2 (by rw [List.length_mergeSort]; omega)) rfl ?_
  rintro _ w3 ⟨v3, rfl, o3, c3⟩
  refine ⟨_, rfl, ?_⟩
  have k3 : Kp w w3 := Kp.of_chg k2 c3 fun k e => (o2.lt e).1
  have hT3 := hT2.chg c3 fun q hq e => rec_ne o2 hT2 (by decide) q e hq
  rw [comp_ends hok] at o3
  have hcl := codesP_len l
  have hc64 := cnt_le l 64
  obtain ⟨a6, c6, e6, _⟩ := hT3.len
  obtain ⟨a3, c3', e3, _⟩ := o3.len
  have ln6 : ∀ K : Value → Prop, ln1 t6 K = K (.int .i64 (once l).length) := fun K => by rw [e6]; rfl
  have ln3 : ∀ K : Value → Prop, ln1 v3 K = K (.int .i64 (codesP l).length) := fun K => by rw [e3]; rfl
  by_cases g1 : (16 : Int) < ((once l).length : Int)
  · simp (disch := omega) only [r_ln, r_pick, r_pickT, r_pickF, r_condT, r_condF, r_gdTT, r_gdFF, r_gdTF, r_gdFT, r_gqTT, r_gqFF, r_gqTF, r_gqFT, r_not, r_lss, r_leq, r_gtr, r_geq, r_eql, r_neq, r_add, r_sub, r_min2, r_max2, r_min3, r_max3, r_fa, r_iaS, r_iaA, r_ex2a, r_ex2b, r_ex3a, r_ex3b, r_ex3c, r_nc, r_keepE, Nat.zero_add, Nat.add_zero, Nat.mul_one, Int.toNat_natCast, toNat_sub1, toNat_add1, decide_true, decide_false, Bool.not_true, Bool.not_false, if_true, if_false, Bool.false_eq_true, reduceCtorEq, ln6, decide_eq_true g1]
    exact hfull _ k3 (by rw [prodF, decide_eq_true (by omega), Bool.true_or])
  by_cases g2 : (8 : Int) < ((codesP l).length : Int)
  · simp (disch := omega) only [r_ln, r_pick, r_pickT, r_pickF, r_condT, r_condF, r_gdTT, r_gdFF, r_gdTF, r_gdFT, r_gqTT, r_gqFF, r_gqTF, r_gqFT, r_not, r_lss, r_leq, r_gtr, r_geq, r_eql, r_neq, r_add, r_sub, r_min2, r_max2, r_min3, r_max3, r_fa, r_iaS, r_iaA, r_ex2a, r_ex2b, r_ex3a, r_ex3b, r_ex3c, r_nc, r_keepE, Nat.zero_add, Nat.add_zero, Nat.mul_one, Int.toNat_natCast, toNat_sub1, toNat_add1, decide_true, decide_false, Bool.not_true, Bool.not_false, if_true, if_false, Bool.false_eq_true, reduceCtorEq, ln6, g1, ln3, decide_eq_true g2]
    exact hfull _ k3 (by rw [prodF, decide_eq_true (show 8 < cnt l 64 by omega), Bool.or_true])
  simp (disch := omega) only [r_ln, r_pick, r_pickT, r_pickF, r_condT, r_condF, r_gdTT, r_gdFF, r_gdTF, r_gdFT, r_gqTT, r_gqFF, r_gqTF, r_gqFT, r_not, r_lss, r_leq, r_gtr, r_geq, r_eql, r_neq, r_add, r_sub, r_min2, r_max2, r_min3, r_max3, r_fa, r_iaS, r_iaA, r_ex2a, r_ex2b, r_ex3a, r_ex3b, r_ex3c, r_nc, r_keepE, Nat.zero_add, Nat.add_zero, Nat.mul_one, Int.toNat_natCast, toNat_sub1, toNat_add1, decide_true, decide_false, Bool.not_true, Bool.not_false, if_true, if_false, Bool.false_eq_true, reduceCtorEq, ln6, g1, ln3, g2]
  have hpf : prodF l = false := by rw [prodF, decide_eq_false (by omega), decide_eq_false (by omega)]; rfl
  exact r50_2 hT3 o3 (by omega) (by omega) k3 fun w' ho kk => hK _ w' kk hpf ho

set_option maxRecDepth 100000 in
theorem prod50_calls {av bv : Value} {a b : List Tile} (w : World) (ha : RdT w av a) (hb : RdT w bv b) : Calls Try.prog 50 #[av, bv] w fun e w' => Kp w w' ∧ ProdPost a b w.heap.size w' e := by
  have ha' := ha
  obtain ⟨aa, ac, rfl, _⟩ := ha.len
  refine lift50 ?_
  unfold S50
  refine r_use fok65 (valid_calls w ha') rfl ?_
  rintro _ w1 ⟨rfl, k1⟩
  refine ⟨_, rfl, ?_⟩
  cases hsa : setB a with
  | false =>
    simp (disch := omega) only [r_ln, r_pick, r_pickT, r_pickF, r_condT, r_condF, r_gdTT, r_gdFF, r_gdTF, r_gdFT, r_gqTT, r_gqFF, r_gqTF, r_gqFT, r_not, r_lss, r_leq, r_gtr, r_geq, r_eql, r_neq, r_add, r_sub, r_min2, r_max2, r_min3, r_max3, r_fa, r_iaS, r_iaA, r_ex2a, r_ex2b, r_ex3a, r_ex3b, r_ex3c, r_nc, r_keepE, Nat.zero_add, Nat.add_zero, Nat.mul_one, Int.toNat_natCast, toNat_sub1, toNat_add1, decide_true, decide_false, Bool.not_true, Bool.not_false, if_true, if_false, Bool.false_eq_true, reduceCtorEq]
    exact ⟨k1, .inl ⟨by rw [hsa]; rfl, rfl⟩⟩
  | true =>
  simp (disch := omega) only [r_ln, r_pick, r_pickT, r_pickF, r_condT, r_condF, r_gdTT, r_gdFF, r_gdTF, r_gdFT, r_gqTT, r_gqFF, r_gqTF, r_gqFT, r_not, r_lss, r_leq, r_gtr, r_geq, r_eql, r_neq, r_add, r_sub, r_min2, r_max2, r_min3, r_max3, r_fa, r_iaS, r_iaA, r_ex2a, r_ex2b, r_ex3a, r_ex3b, r_ex3c, r_nc, r_keepE, Nat.zero_add, Nat.add_zero, Nat.mul_one, Int.toNat_natCast, toNat_sub1, toNat_add1, decide_true, decide_false, Bool.not_true, Bool.not_false, if_true, if_false, Bool.false_eq_true, reduceCtorEq]
  refine r_use fok65 (valid_calls w1 (hb.kp k1)) rfl ?_
  rintro _ w2 ⟨rfl, k2⟩
  refine ⟨_, rfl, ?_⟩
  have k02 := Kp.trans k1 k2
  cases hsb : setB b with
  | false =>
    simp (disch := omega) only [r_ln, r_pick, r_pickT, r_pickF, r_condT, r_condF, r_gdTT, r_gdFF, r_gdTF, r_gdFT, r_gqTT, r_gqFF, r_gqTF, r_gqFT, r_not, r_lss, r_leq, r_gtr, r_geq, r_eql, r_neq, r_add, r_sub, r_min2, r_max2, r_min3, r_max3, r_fa, r_iaS, r_iaA, r_ex2a, r_ex2b, r_ex3a, r_ex3b, r_ex3c, r_nc, r_keepE, Nat.zero_add, Nat.add_zero, Nat.mul_one, Int.toNat_natCast, toNat_sub1, toNat_add1, decide_true, decide_false, Bool.not_true, Bool.not_false, if_true, if_false, Bool.false_eq_true, reduceCtorEq]
    exact ⟨k02, .inl ⟨by rw [hsb, Bool.and_false], rfl⟩⟩
  | true =>
  simp (disch := omega) only [r_ln, r_pick, r_pickT, r_pickF, r_condT, r_condF, r_gdTT, r_gdFF, r_gdTF, r_gdFT, r_gqTT, r_gqFF, r_gqTF, r_gqFT, r_not, r_lss, r_leq, r_gtr, r_geq, r_eql, r_neq, r_add, r_sub, r_min2, r_max2, r_min3, r_max3, r_fa, r_iaS, r_iaA, r_ex2a, r_ex2b, r_ex3a, r_ex3b, r_ex3c, r_nc, r_keepE, Nat.zero_add, Nat.add_zero, Nat.mul_one, Int.toNat_natCast, toNat_sub1, toNat_add1, decide_true, decide_false, Bool.not_true, Bool.not_false, if_true, if_false, Bool.false_eq_true, reduceCtorEq]
  exact r50_0 (ha'.kp k02) (hb.kp k02) (isSet_of hsa) (isSet_of hsb) (fun w' kk hf => ⟨Kp.trans k02 kk, .inr (.inl ⟨by rw [hsa, hsb]; rfl, hf, rfl⟩)⟩) fun v w' kk hf ho => ⟨Kp.trans k02 kk, .inr (.inr ⟨by rw [hsa, hsb]; rfl, hf, v, rfl, ho.down k02.size⟩)⟩

end Go.Proofs.Ytgalbokmgffhkaa

/- Contract: Product of the specification: the loops. -/
namespace Go.Proofs.Ytgalbokmgffhkaa
open Go.Lf Go.RowKit Go.Wg

def usedL (l : List Tile) : List Bool := (List.range 64).map (usedB l)
theorem usedL_len (l : List Tile) : (usedL l).length = 64 := by simp [usedL]
theorem usedL_push {l : List Tile} {u : Tile} (hE : 0 ≤ tE u ∧ tE u < 64) (hW : 0 ≤ tW u ∧ tW u < 64) : usedL (l ++ [u]) = ((usedL l).set (tE u).toNat true).set (tW u).toNat true := by
  refine List.ext_getElem (by simp [usedL]) fun c h1 h2 => ?_
  have hc : c < 64 := by simpa [usedL] using h1
  have e1 : (usedL (l ++ [u]))[c]'h1 = usedB (l ++ [u]) c := by simp [usedL]
  have e2 : usedB (l ++ [u]) c = (usedB l c || (decide (tE u = (c : Int)) || decide (tW u = (c : Int)))) := by simp [usedB]
  refine Eq.trans e1 ?_
  rw [e2, List.getElem_set, List.getElem_set]
  by_cases g1 : (tW u).toNat = c
  · rw [if_pos g1, decide_eq_true (show tW u = (c : Int) by omega)]; simp
  · rw [if_neg g1, decide_eq_false (show ¬ tW u = (c : Int) by omega)]
    by_cases g2 : (tE u).toNat = c
    · rw [if_pos g2, decide_eq_true (show tE u = (c : Int) by omega)]; simp
    · rw [if_neg g2, decide_eq_false (show ¬ tE u = (c : Int) by omega)]
      simp [usedL]
theorem usedL_nil : usedL [] = List.replicate 64 false := by decide

def noL (l : List Tile) (i : Nat) : List Int := (List.range 64).map fun j => if j < i then ((cnt l j : Nat) : Int) else 0
theorem noL_len (l : List Tile) (i : Nat) : (noL l i).length = 64 := by simp [noL]
theorem noL_zero (l : List Tile) : noL l 0 = List.replicate 64 0 := by
  refine List.ext_getElem (by simp [noL]) fun c h1 h2 => ?_
  rw [List.getElem_replicate]
  simp only [noL, List.getElem_map, List.getElem_range]
  rw [if_neg (by omega)]
theorem noL_set {l : List Tile} {i : Nat} (hi : i < 64) : noL l (i + 1) = (noL l i).set i ((cnt l i : Nat) : Int) := by
  refine List.ext_getElem (by simp [noL]) fun c h1 h2 => ?_
  rw [List.getElem_set]
  simp only [noL, List.getElem_map, List.getElem_range]
  by_cases g : i = c
  · subst g; simp
  · rw [if_neg g]
    by_cases g2 : c < i
    · rw [if_pos g2, if_pos (by omega)]
    · rw [if_neg g2, if_neg (by omega)]
theorem noL_at {l : List Tile} {c : Nat} (hc : c < 64) : (noL l 64).getD c 0 = ((cnt l c : Nat) : Int) := by
  rw [getD_lt _ _ _ (by rw [noL_len]; exact hc)]
  simp [noL, hc]

/-- The tiles, twins too, and the colours in use. -/
structure QSt (w0 : World) (pre : List Tile) (uv : Value) (w : World) (t7 : Value) : Prop where
  tl : TlAt w0.heap.size w t7 pre
  us : RecAt 4 1 bC w0.heap.size w uv (usedL pre)
  kp : Kp w0 w
theorem QSt.later {w0 : World} {pre : List Tile} {uv : Value} {w w' : World} {t7 : Value} (h : QSt w0 pre uv w t7) (k : Kp w w') : QSt w0 pre uv w' t7 := ⟨h.tl.kp k, h.us.kp k, Kp.trans h.kp k⟩
theorem bdR (x y z u : Int) (K : Value → Prop) : bdQ Try.prog 32 [(0, .int .i64 x), (2, .int .i64 z), (1, .int .i64 y), (3, .int .i64 u)] K = K (tlV (x, y, z, u)) := by kernel_rfl

set_option maxRecDepth 100000 in
/-- append(out, tile), wherever the base. -/
theorem r_pushT' {base : Nat} {w : World} {v : Value} {P : List Tile} {t : Tile} {K : Value → World → Prop} (h : TlAt base w v P) (hn : P.length + 1 ≤ 1000000) (hb : base ≤ w.heap.size)
    (hk : ∀ v' w', TlAt base w' v' (P ++ [t]) → Chg (fun k => v.ownBlock = some k) w w' → K v' w') :
    bsW Try.prog 22 1 [(0, tlV t)] w fun s w => semW Try.prog (apS [22, 22] 22 [v, s]) w K :=
  r_pushRec (x := t) slt22 tlC_len rfl (bs22 _ _ _ _ _) (tlC_one t) (by omega) h hn hb fun v' w' ho hc _ => hk v' w' ho hc

set_option maxRecDepth 100000 in
set_option maxHeartbeats 1000000 in
theorem r51_1 {w0 w : World} {i : Nat} {a b pre : List Tile} {s : Tile} {av bv uv t7 : Value} {next : Value → Value → World → Prop} (S : QSt w0 pre uv w t7) (ha : RdT w0 av a) (hai : a[i]? = some s) (hb : RdT w0 bv b) (hsc : colsB s = true) (hbc : ∀ t ∈ b, colsB t = true) (hbl : b.length ≤ 16) (hpl : pre.length ≤ 500) (hi : i ≤ 100)
    (hn : ∀ t7' w', QSt w0 (pre ++ under1 b s) uv w' t7' → next t7' (.int .i64 ((i : Int) + 1)) w') :
    S51L1 av bv t7 (.int .i64 i) uv next w := by
  obtain ⟨ba, bc, ebv, _⟩ := hb.len
  have lnb : ∀ K : Value → Prop, ln1 bv K = K (.int .i64 b.length) := fun K => by rw [ebv]; rfl
  unfold S51L1
  refine ⟨fun t7 t9 wr => ∃ j : Nat, j ≤ b.length ∧ t9 = .int .i64 j ∧ QSt w0 (pre ++ under1 (b.take j) s) uv wr t7, fun _ t9 _ => b.length - (intOf t9).toNat, ⟨0, by omega, rfl, by simpa [under1] using S⟩, ?_⟩
  rintro _ t7 _ wr ⟨j, hj, rfl, Sj⟩
  rw [lnb]
  by_cases hlt : j < b.length
  case neg =>
    have hlt' : ¬ (j : Int) < (b.length : Int) := by omega
    rw [List.take_of_length_le (by omega)] at Sj
    simp (disch := omega) only [r_ln, r_pick, r_pickT, r_pickF, r_condT, r_condF, r_gdTT, r_gdFF, r_gdTF, r_gdFT, r_gqTT, r_gqFF, r_gqTF, r_gqFT, r_not, r_lss, r_leq, r_gtr, r_geq, r_eql, r_neq, r_add, r_sub, r_min2, r_max2, r_min3, r_max3, r_fa, r_iaS, r_iaA, r_ex2a, r_ex2b, r_ex3a, r_ex3b, r_ex3c, r_nc, r_keepE, Nat.zero_add, Nat.add_zero, Nat.mul_one, Int.toNat_natCast, toNat_sub1, toNat_add1, decide_true, decide_false, Bool.not_true, Bool.not_false, if_true, if_false, Bool.false_eq_true, reduceCtorEq, hlt']
    exact hn _ _ Sj
  have hlt' : (j : Int) < (b.length : Int) := by omega
  have hut := under1_take (s := s) hlt
  have hul := under1_len (b.take j) s
  rw [List.length_take] at hul
  have htc := cols_range (hbc _ (List.getElem_mem hlt))
  have hsr := cols_range hsc
  have hbj : b[j]? = some b[j] := List.getElem?_eq_getElem hlt
  obtain ⟨ab, ao, ac, eav, hia, hca⟩ := (ha.kp Sj.kp).at hai
  obtain ⟨bb, bo, bc', ebv', _, hcb⟩ := (hb.kp Sj.kp).at hbj
  generalize b[j] = t at *
  have hii : (i : Int).toNat = i := by omega
  have hjj : (j : Int).toNat = j := by omega
  have ia : ∀ K : Value → Prop, iaS 4 av (.int .i64 i) K = K (.pointer (some ⟨ab, ao + i * 4, none⟩)) := fun K => by rw [eav, r_iaS _ _ _ _ _ _ _ (by omega) (by omega), hii]
  have ib : ∀ K : Value → Prop, iaS 4 bv (.int .i64 j) K = K (.pointer (some ⟨bb, bo + j * 4, none⟩)) := fun K => by rw [ebv', r_iaS _ _ _ _ _ _ _ (by omega) (by omega), hjj]
  simp (disch := omega) only [r_lss, decide_eq_true hlt', r_condT]
  refine r_join1 (fun v7 w' => QSt w0 (pre ++ under1 (b.take (j + 1)) s) uv w' v7) ?_ fun k2 hk2 => ?_
  · rintro v7 w' S'
    rw [r_add _ _ (by omega) (by omega)]
    exact ⟨⟨j + 1, by omega, by go_num, S'⟩, by simp only [intOf]; omega⟩
  rw [hut, ← List.append_assoc] at hk2
  have hpl2 : (pre ++ under1 (b.take j) s).length ≤ 600 := by rw [List.length_append]; omega
  generalize pre ++ under1 (b.take j) s = pj at *
  refine r_drew fun w2 k2' _ => ?_
  have a2 : w2.cell? ⟨ab, ao + i * 4 + 2, none⟩ = some (.int .i64 (tS s)) := cell_later k2' (hca 2 _ rfl)
  have b0 : w2.cell? ⟨bb, bo + j * 4 + 0, none⟩ = some (.int .i64 (tN t)) := cell_later k2' (hcb 0 _ rfl)
  have S2 := Sj.later k2'
  rw [Nat.add_zero] at b0
  by_cases hst : tS s = tN t
  case neg =>
    rw [if_neg hst, List.append_nil] at hk2
    simp (disch := omega) only [ia, ib, r_fa, Nat.add_zero, r_ld a2, r_ld b0, r_neq, hst, decide_false, Bool.not_false, r_condT]
    exact hk2 _ _ S2
  rw [if_pos hst] at hk2
  simp (disch := omega) only [ia, ib, r_fa, Nat.add_zero, r_ld a2, r_ld b0, r_neq, decide_eq_true hst, Bool.not_true, r_condF]
  refine r_drew fun w3 k3 _ => ?_
  have k23 := Kp.trans k2' k3
  have S3 := Sj.later k23
  have c0 : w3.cell? ⟨ab, ao + i * 4 + 0, none⟩ = some (.int .i64 (tN s)) := cell_later k23 (hca 0 _ rfl)
  have c1 : w3.cell? ⟨ab, ao + i * 4 + 1, none⟩ = some (.int .i64 (tE s)) := cell_later k23 (hca 1 _ rfl)
  have c3 : w3.cell? ⟨ab, ao + i * 4 + 3, none⟩ = some (.int .i64 (tW s)) := cell_later k23 (hca 3 _ rfl)
  have d1 : w3.cell? ⟨bb, bo + j * 4 + 1, none⟩ = some (.int .i64 (tE t)) := cell_later k23 (hcb 1 _ rfl)
  have d2 : w3.cell? ⟨bb, bo + j * 4 + 2, none⟩ = some (.int .i64 (tS t)) := cell_later k23 (hcb 2 _ rfl)
  have d3 : w3.cell? ⟨bb, bo + j * 4 + 3, none⟩ = some (.int .i64 (tW t)) := cell_later k23 (hcb 3 _ rfl)
  rw [Nat.add_zero] at c0
  have hbd : ∀ K : Value → Prop, bdQ Try.prog 32 [(0, .int .i64 (tN s)), (2, .int .i64 (tS t)), (1, .int .i64 (tE s * 8 + tE t)), (3, .int .i64 (tW s * 8 + tW t))] K = K (tlV (pairT s t)) := fun K => bdR _ _ _ _ K
  simp (disch := omega) only [ia, ib, r_fa, Nat.add_zero, r_ld c0, r_ld c1, r_ld c3, r_ld d1, r_ld d2, r_ld d3, r_mul, r_add, hbd]
  have hu : tE (pairT s t) = tE s * 8 + tE t ∧ tW (pairT s t) = tW s * 8 + tW t := ⟨rfl, rfl⟩
  generalize pairT s t = u at *
  have hE : 0 ≤ tE u ∧ tE u < 64 := by omega
  have hW : 0 ≤ tW u ∧ tW u < 64 := by omega
  have hup := usedL_push (l := pj) hE hW
  refine r_box fun b10 w4 e10 s10 h10 k10 => ⟨k10, ?_⟩
  refine r_stAll (n := 4) (ty := 32) (by kernel_rfl) rfl (by intro u hu; simp [Value.cells, tlC] at hu; rcases hu with rfl | rfl | rfl | rfl <;> rfl) h10 rfl fun w5 c5 s5 h5 => ?_
  have k5 : Kp w3 w5 := Kp.of_chg k10 c5 fun q e => by omega
  have S5 := S3.later k5
  have g1 : w5.cell? ⟨b10, 1, none⟩ = some (.int .i64 (tE u)) := by rw [cell_row h5]; rfl
  have hul5 := usedL_len pj
  obtain ⟨y1, hat⟩ : ∃ y, (usedL pj)[(tE u).toNat]? = some y := ⟨_, List.getElem?_eq_getElem (by omega)⟩
  obtain ⟨g, cap, eu, hbg, ⟨x1, cx1⟩, fx1, o1⟩ := RecAt.set (j := 0) (p' := true) (u := .bool true) bC_len S5.us hat (by omega) rfl
  simp only [Nat.mul_one, Nat.add_zero] at cx1 fx1 o1
  have gown : uv.ownBlock = some g := by rw [eu]; rfl
  have gl := (S5.us.lt gown).2
  have gl3 := (S3.us.lt gown).2
  have hgb : ¬ g = b10 := by omega
  have iu : ∀ (x : Int) (K : Value → Prop), 0 ≤ x → x < 64 → iaS 1 uv (.int .i64 x) K = K (.pointer (some ⟨g, x.toNat, none⟩)) := fun x K h0 h1 => by
    rw [eu, hul5, r_iaS _ _ _ _ _ _ _ h0 (by omega), Nat.mul_one, Nat.zero_add]
  simp only [r_fa, Nat.zero_add, r_ld g1]
  rw [iu _ _ hE.1 hE.2, st4 cx1 fx1]
  have ch1 : Chg (fun q => q = g) w5 (w5.setCell ⟨g, (tE u).toNat, none⟩ (.bool true)) := Chg.setCell _ _ rfl
  generalize w5.setCell ⟨g, (tE u).toNat, none⟩ (.bool true) = w6 at *
  have h6 := ch1.at h5 (fun e => hgb e.symm)
  have g3 : w6.cell? ⟨b10, 3, none⟩ = some (.int .i64 (tW u)) := by rw [cell_row h6]; rfl
  obtain ⟨y2, hat2⟩ : ∃ y, ((usedL pj).set (tE u).toNat true)[(tW u).toNat]? = some y := ⟨_, List.getElem?_eq_getElem (by rw [List.length_set]; omega)⟩
  obtain ⟨g', cap', eu', _, ⟨x2, cx2⟩, fx2, o2⟩ := RecAt.set (j := 0) (p' := true) (u := .bool true) bC_len o1 hat2 (by omega) rfl
  have hgg : g' = g := by
    rw [eu'] at gown
    injection gown
  subst hgg
  simp only [Nat.mul_one, Nat.add_zero] at cx2 fx2 o2
  simp only [r_fa, Nat.zero_add, r_ld g3]
  rw [iu _ _ hW.1 hW.2, st4 cx2 fx2]
  have ch2 : Chg (fun q => q = g') w6 (w6.setCell ⟨g', (tW u).toNat, none⟩ (.bool true)) := Chg.setCell _ _ rfl
  generalize w6.setCell ⟨g', (tW u).toNat, none⟩ (.bool true) = w7 at *
  have h7 := ch2.at h6 (fun e => hgb e.symm)
  rw [← hup] at o2
  have ch12 := ch1.trans ch2
  have tl7 : TlAt w0.heap.size w7 t7 pj := S5.tl.chg ch12 fun q hq e => by
    subst e
    exact rec_ne S5.us S5.tl (by decide) q gown hq
  have k7 : Kp w0 w7 := Kp.of_chg S5.kp ch12 fun q e => by rw [e]; exact hbg
  rw [r_ldRow (n := 4) h7 rfl]
  refine r_pushT' (t := u) tl7 (by omega) k7.size fun v8 w8 o8 c8 => ?_
  exact hk2 _ _ ⟨o8, o2.chg c8 fun q hq e => rec_ne o2 tl7 (by decide) q hq e, Kp.of_chg k7 c8 fun q e => (tl7.lt e).1⟩

end Go.Proofs.Ytgalbokmgffhkaa

/- Contract: Product of the specification. -/
namespace Go.Proofs.Ytgalbokmgffhkaa
open Go.Lf Go.RowKit Go.Wg

set_option maxRecDepth 100000 in
/-- Is a tile among those that are there? If not, it is put behind them. -/
theorem r51_4 {w0 w : World} {t14 : Value} {out : List Tile} {b16 i : Nat} {u : Tile} {next : Value → Value → World → Prop} (hO : TlAt w0.heap.size w t14 out) (h16 : w.heap[b16]? = some (.cells (tlV u).cells 32 (0, 0))) (hol : out.length ≤ 1000) (hi : i ≤ 1000) (hk : Kp w0 w)
    (hn : ∀ v w', TlAt w0.heap.size w' v (addU out u) → (∀ q, t14.ownBlock = some q ∨ Kp w w' → True) → Chg (fun k => t14.ownBlock = some k) w w' → Kp w0 w' → next v (.int .i64 ((i : Int) + 1)) w') :
    S51L4 t14 (.int .i64 i) (.pointer (some ⟨b16, 0, none⟩)) next w := by
  obtain ⟨oa, oc, eo, _⟩ := hO.len
  have lno : ∀ K : Value → Prop, ln1 t14 K = K (.int .i64 out.length) := fun K => by rw [eo]; rfl
  unfold S51L4
  refine ⟨fun t17 t18 wr => ∃ k : Nat, k ≤ out.length ∧ t18 = .int .i64 k ∧ t17 = .bool (decide (u ∈ out.take k)) ∧ Kp w wr, fun _ t18 _ => out.length - (intOf t18).toNat, ⟨0, by omega, rfl, by simp, Kp.refl _⟩, ?_⟩
  rintro _ _ _ wr ⟨k, hkl, rfl, rfl, kr⟩
  rw [lno]
  have hOr := hO.kp kr
  have h16r := block_below h16 kr
  by_cases hlt : k < out.length
  case pos =>
    have hlt' : (k : Int) < (out.length : Int) := by omega
    simp (disch := omega) only [r_lss, decide_eq_true hlt', r_condT]
    refine r_drew fun w2 k2 _ => ?_
    have kr2 := Kp.trans kr k2
    have htk : (u ∈ out.take (k + 1)) ↔ (u ∈ out.take k ∨ u = out[k]) := by
      rw [take_succ' _ _ hlt, List.mem_append]; simp
    by_cases hin : u ∈ out.take k
    · simp (disch := omega) only [r_ln, r_pick, r_pickT, r_pickF, r_condT, r_condF, r_gdTT, r_gdFF, r_gdTF, r_gdFT, r_gqTT, r_gqFF, r_gqTF, r_gqFT, r_not, r_lss, r_leq, r_gtr, r_geq, r_eql, r_neq, r_add, r_sub, r_min2, r_max2, r_min3, r_max3, r_fa, r_iaS, r_iaA, r_ex2a, r_ex2b, r_ex3a, r_ex3b, r_ex3c, r_nc, r_keepE, Nat.zero_add, Nat.add_zero, Nat.mul_one, Int.toNat_natCast, toNat_sub1, toNat_add1, decide_true, decide_false, Bool.not_true, Bool.not_false, if_true, if_false, Bool.false_eq_true, reduceCtorEq, decide_eq_true hin]
      exact ⟨⟨k + 1, by omega, by go_num, by rw [decide_eq_true (htk.2 (.inl hin))], kr2⟩, by simp only [intOf]; omega⟩
    · obtain ⟨b, off, cap, e, _, hcell⟩ := ((hO.kp kr2).rd tlC_len).at (List.getElem?_eq_getElem hlt)
      have hkk : (k : Int).toNat = k := by omega
      have h162 := block_below h16r k2
      subst e
      simp (disch := omega) only [r_ln, r_pick, r_pickT, r_pickF, r_condT, r_condF, r_gdTT, r_gdFF, r_gdTF, r_gdFT, r_gqTT, r_gqFF, r_gqTF, r_gqFT, r_not, r_lss, r_leq, r_gtr, r_geq, r_eql, r_neq, r_add, r_sub, r_min2, r_max2, r_min3, r_max3, r_fa, r_iaS, r_iaA, r_ex2a, r_ex2b, r_ex3a, r_ex3b, r_ex3c, r_nc, r_keepE, Nat.zero_add, Nat.add_zero, Nat.mul_one, Int.toNat_natCast, toNat_sub1, toNat_add1, decide_true, decide_false, Bool.not_true, Bool.not_false, if_true, if_false, Bool.false_eq_true, reduceCtorEq, hin, hkk, r_ldCells (tlC_len _) hcell, r_ldRow (n := 4) h162 rfl]
      have ev : ∀ t : Tile, Value.agg (tlC t).toArray = tlV t := fun t => rfl
      have ev2 : Value.agg (tlV u).cells = tlV u := rfl
      rw [ev, ev2, r_eq32]
      try simp (disch := omega) only [r_ln, r_pick, r_pickT, r_pickF, r_condT, r_condF, r_gdTT, r_gdFF, r_gdTF, r_gdFT, r_gqTT, r_gqFF, r_gqTF, r_gqFT, r_not, r_lss, r_leq, r_gtr, r_geq, r_eql, r_neq, r_add, r_sub, r_min2, r_max2, r_min3, r_max3, r_fa, r_iaS, r_iaA, r_ex2a, r_ex2b, r_ex3a, r_ex3b, r_ex3c, r_nc, r_keepE, Nat.zero_add, Nat.add_zero, Nat.mul_one, Int.toNat_natCast, toNat_sub1, toNat_add1, decide_true, decide_false, Bool.not_true, Bool.not_false, if_true, if_false, Bool.false_eq_true, reduceCtorEq]
      refine ⟨⟨k + 1, by omega, by go_num, ?_, kr2⟩, by simp only [intOf]; omega⟩
      congr 1
      rw [decide_eq_decide, htk]
      constructor
      · intro h; exact .inr h.symm
      · rintro (h | h)
        · exact absurd h hin
        · exact h.symm
  have hlt' : ¬ (k : Int) < (out.length : Int) := by omega
  rw [List.take_of_length_le (by omega)]
  simp (disch := omega) only [r_lss, hlt', decide_false, r_condF, r_not]
  have kk0 := Kp.trans hk kr
  refine r_join1 (fun v w' => TlAt w0.heap.size w' v (addU out u) ∧ Chg (fun k => t14.ownBlock = some k) w w' ∧ Kp w0 w') ?_ fun k' hk' => ?_
  · rintro v w' ⟨ho, hc, kk⟩
    rw [r_add _ _ (by omega) (by omega)]
    exact hn v w' ho (fun _ _ => trivial) hc kk
  by_cases hin : u ∈ out
  · simp only [decide_eq_true hin, Bool.not_true, r_condF]
    refine hk' _ _ ⟨?_, Chg.of_kp kr, kk0⟩
    rw [addU, if_pos hin]; exact hOr
  · simp only [hin, decide_false, Bool.not_false, r_condT]
    rw [r_ldRow (n := 4) h16r rfl]
    refine r_pushT' (t := u) hOr (by omega) kk0.size fun v w' ho hc => ?_
    exact hk' _ _ ⟨by rw [addU, if_neg hin]; exact ho, (Chg.of_kp kr).trans hc, Kp.of_chg kk0 hc fun q e => (hOr.lt e).1⟩

set_option maxRecDepth 100000 in
set_option maxHeartbeats 800000 in
theorem r51_3 {w0 w : World} {t7 nv : Value} {l : List Tile} {K : Ending → World → Prop} (hT : TlAt w0.heap.size w t7 l) (hN : IntsAt w0.heap.size w nv (noL l 64)) (hok : pairOk l) (hll : l.length ≤ 500) (hk : Kp w0 w)
    (hfull : ∀ w', Kp w0 w' → prodF l = true → K (.returned (.tuple #[nilS, .int .i64 8])) w')
    (hK : ∀ v w', Kp w0 w' → prodF l = false → TlAt w0.heap.size w' v (prodT l) → K (.returned (.tuple #[v, .int .i64 0])) w') : S51L3 t7 (.int .i64 (cnt l 64 : Nat)) nv K w := by
  obtain ⟨ta, tc, et, _⟩ := hT.len
  have lnt : ∀ K : Value → Prop, ln1 t7 K = K (.int .i64 l.length) := fun K => by rw [et]; rfl
  unfold S51L3
  refine ⟨fun t14 t15 wr => ∃ i : Nat, i ≤ l.length ∧ t15 = .int .i64 i ∧ TlAt w.heap.size wr t14 (once ((l.take i).map (renS l))) ∧ Kp w wr, fun _ t15 _ => l.length - (intOf t15).toNat, ⟨0, by omega, rfl, RecAt.nil, Kp.refl _⟩, ?_⟩
  rintro _ t14 _ wr ⟨i, hi, rfl, hO, kr⟩
  rw [lnt]
  have hol : (once ((l.take i).map (renS l))).length ≤ 500 := by
    have h1 := once_len_le ((l.take i).map (renS l))
    rw [List.length_map, List.length_take] at h1
    omega
  by_cases hlt : i < l.length
  case pos =>
    have hlt' : (i : Int) < (l.length : Int) := by omega
    obtain ⟨b, off, cap, e, _, hcell⟩ := ((hT.kp kr).rd tlC_len).at (List.getElem?_eq_getElem hlt)
    have hii : (i : Int).toNat = i := by omega
    have hrng := hok _ (List.getElem_mem hlt)
    have hstep : once ((l.take (i + 1)).map (renS l)) = addU (once ((l.take i).map (renS l))) (renS l l[i]) := by
      rw [take_succ' _ _ hlt, List.map_append, once_append]; rfl
    generalize l[i] = t at *
    have ia : ∀ K : Value → Prop, iaS 4 t7 (.int .i64 i) K = K (.pointer (some ⟨b, off + i * 4, none⟩)) := fun K => by rw [e, r_iaS _ _ _ _ _ _ _ (by omega) (by omega), hii]
    simp (disch := omega) only [r_lss, decide_eq_true hlt', r_condT, ia, r_ldCells (tlC_len t) hcell]
    refine r_box fun b16 w2 e16 s16 h16 k16 => ?_
    refine r_stAll (n := 4) (ty := 32) (by kernel_rfl) rfl (by intro u hu; simp [Value.cells, tlC] at hu; rcases hu with rfl | rfl | rfl | rfl <;> rfl) h16 rfl fun w3 c3 s3 h3 => ?_
    have k3 : Kp wr w3 := Kp.of_chg k16 c3 fun q e => by omega
    have g1 : w3.cell? ⟨b16, 1, none⟩ = some (.int .i64 (tE t)) := by rw [cell_row h3]; rfl
    -- the numbers
    have hN3 : IntsAt w0.heap.size w3 nv (noL l 64) := hN.kp (Kp.trans kr k3)
    obtain ⟨na, nc, en, _⟩ := hN3.len
    have nat : ∀ (x : World), IntsAt w0.heap.size x nv (noL l 64) → ∀ c : Nat, c < 64 → ∃ g cp, nv = .slice (some ⟨g, 0, none⟩) (noL l 64).length cp ∧ x.cell? ⟨g, c, none⟩ = some (.int .i64 (cnt l c : Nat)) := fun x hx c hc => by
      obtain ⟨g, cp, ev, _, hcl, _, _⟩ := IntsAt.put hx (q := c) (by rw [noL_len]; exact hc) 0
      rw [noL_at hc] at hcl
      exact ⟨g, cp, ev, hcl⟩
    obtain ⟨g, cp, env, hc1⟩ := nat w3 hN3 (tE t).toNat (by omega)
    have inv : ∀ (x : Int) (K : Value → Prop), 0 ≤ x → x < 64 → iaS 1 nv (.int .i64 x) K = K (.pointer (some ⟨g, x.toNat, none⟩)) := fun x K h0 h1 => by
      rw [env, r_iaS _ _ _ _ _ _ _ h0 (by rw [noL_len]; omega), Nat.mul_one, Nat.zero_add]
    simp only [r_fa, Nat.zero_add, r_ld g1]
    rw [inv _ _ hrng.1.1 hrng.1.2, r_ld hc1, st3 g1 (frozen_row h3)]
    have ch1 : Chg (fun q => q = b16) w3 (w3.setCell ⟨b16, 1, none⟩ (.int .i64 (cnt l (tE t).toNat : Nat))) := Chg.setCell _ _ rfl
    have h4 := setCell_block (o := 1) (v := .int .i64 (cnt l (tE t).toNat : Nat)) h3 rfl
    generalize w3.setCell ⟨b16, 1, none⟩ (.int .i64 (cnt l (tE t).toNat : Nat)) = w4 at *
    have k4 : Kp wr w4 := Kp.of_chg k3 ch1 fun q e => by omega
    have g3 : w4.cell? ⟨b16, 3, none⟩ = some (.int .i64 (tW t)) := by rw [cell_row h4]; rfl
    have hN4 : IntsAt w0.heap.size w4 nv (noL l 64) := hN.kp (Kp.trans kr k4)
    obtain ⟨g', cp', env', hc3⟩ := nat w4 hN4 (tW t).toNat (by omega)
    have hgg : g' = g := by
      rw [env'] at env
      injection env with h _ _
      injection h with h
      injection h
    subst hgg
    simp only [r_fa, Nat.zero_add, r_ld g3]
    rw [inv _ _ hrng.2.1 hrng.2.2, r_ld hc3, st3 g3 (frozen_row h4)]
    have ch2 : Chg (fun q => q = b16) w4 (w4.setCell ⟨b16, 3, none⟩ (.int .i64 (cnt l (tW t).toNat : Nat))) := Chg.setCell _ _ rfl
    have h5 := setCell_block (o := 3) (v := .int .i64 (cnt l (tW t).toNat : Nat)) h4 rfl
    generalize w4.setCell ⟨b16, 3, none⟩ (.int .i64 (cnt l (tW t).toNat : Nat)) = w5 at *
    have k5 : Kp wr w5 := Kp.of_chg k4 ch2 fun q e => by omega
    have h5' : w5.heap[b16]? = some (.cells (tlV (renS l t)).cells 32 (0, 0)) := by rw [h5]; rfl
    refine r51_4 (w0 := w) (hO.kp k5) h5' (by omega) (by omega) (Kp.trans kr k5) fun v w' ho _ _ kk => ?_
    refine ⟨⟨i + 1, by omega, by go_num, ?_, kk⟩, by simp only [intOf]; omega⟩
    rw [hstep]; exact ho
  have hlt' : ¬ (i : Int) < (l.length : Int) := by omega
  rw [List.take_of_length_le (by omega), prod_spec hok] at hO hol
  have hpl : (prodT l).length = (once l).length := by simp [prodT]
  obtain ⟨oa, oc, eo, _⟩ := hO.len
  have lno : ∀ K : Value → Prop, ln1 t14 K = K (.int .i64 (once l).length) := fun K => by rw [eo, ← hpl]; rfl
  have kk0 := Kp.trans hk kr
  by_cases q1 : (16 : Int) < ((once l).length : Int)
  · simp (disch := omega) only [r_ln, r_pick, r_pickT, r_pickF, r_condT, r_condF, r_gdTT, r_gdFF, r_gdTF, r_gdFT, r_gqTT, r_gqFF, r_gqTF, r_gqFT, r_not, r_lss, r_leq, r_gtr, r_geq, r_eql, r_neq, r_add, r_sub, r_min2, r_max2, r_min3, r_max3, r_fa, r_iaS, r_iaA, r_ex2a, r_ex2b, r_ex3a, r_ex3b, r_ex3c, r_nc, r_keepE, Nat.zero_add, Nat.add_zero, Nat.mul_one, Int.toNat_natCast, toNat_sub1, toNat_add1, decide_true, decide_false, Bool.not_true, Bool.not_false, if_true, if_false, Bool.false_eq_true, reduceCtorEq, hlt', lno, decide_eq_true q1]
    exact hfull _ kk0 (by rw [prodF, decide_eq_true (by omega), Bool.true_or])
  by_cases q2 : (8 : Int) < ((cnt l 64 : Nat) : Int)
  · simp (disch := omega) only [r_ln, r_pick, r_pickT, r_pickF, r_condT, r_condF, r_gdTT, r_gdFF, r_gdTF, r_gdFT, r_gqTT, r_gqFF, r_gqTF, r_gqFT, r_not, r_lss, r_leq, r_gtr, r_geq, r_eql, r_neq, r_add, r_sub, r_min2, r_max2, r_min3, r_max3, r_fa, r_iaS, r_iaA, r_ex2a, r_ex2b, r_ex3a, r_ex3b, r_ex3c, r_nc, r_keepE, Nat.zero_add, Nat.add_zero, Nat.mul_one, Int.toNat_natCast, toNat_sub1, toNat_add1, decide_true, decide_false, Bool.not_true, Bool.not_false, if_true, if_false, Bool.false_eq_true, reduceCtorEq, hlt', lno, q1, decide_eq_true q2]
    exact hfull _ kk0 (by rw [prodF, decide_eq_true (show 8 < cnt l 64 by omega), Bool.or_true])
  simp (disch := omega) only [r_ln, r_pick, r_pickT, r_pickF, r_condT, r_condF, r_gdTT, r_gdFF, r_gdTF, r_gdFT, r_gqTT, r_gqFF, r_gqTF, r_gqFT, r_not, r_lss, r_leq, r_gtr, r_geq, r_eql, r_neq, r_add, r_sub, r_min2, r_max2, r_min3, r_max3, r_fa, r_iaS, r_iaA, r_ex2a, r_ex2b, r_ex3a, r_ex3b, r_ex3c, r_nc, r_keepE, Nat.zero_add, Nat.add_zero, Nat.mul_one, Int.toNat_natCast, toNat_sub1, toNat_add1, decide_true, decide_false, Bool.not_true, Bool.not_false, if_true, if_false, Bool.false_eq_true, reduceCtorEq, hlt', lno, q1, q2]
  exact hK _ _ kk0 (by rw [prodF, decide_eq_false (by omega), decide_eq_false (by omega)]; rfl) (hO.down hk.size)

set_option maxRecDepth 100000 in
theorem r51_2 {w0 w : World} {t7 uv nv : Value} {l : List Tile} {K : Ending → World → Prop} (S : QSt w0 l uv w t7) (hN : IntsAt w0.heap.size w nv (noL l 0)) (hok : pairOk l) (hll : l.length ≤ 500)
    (hfull : ∀ w', Kp w0 w' → prodF l = true → K (.returned (.tuple #[nilS, .int .i64 8])) w')
    (hK : ∀ v w', Kp w0 w' → prodF l = false → TlAt w0.heap.size w' v (prodT l) → K (.returned (.tuple #[v, .int .i64 0])) w') : S51L2 t7 uv nv K w := by
  unfold S51L2
  refine ⟨fun t12 t13 wr => ∃ i : Nat, i ≤ 64 ∧ t13 = .int .i64 i ∧ t12 = .int .i64 (cnt l i : Nat) ∧ IntsAt w0.heap.size wr nv (noL l i) ∧ QSt w0 l uv wr t7, fun _ t13 _ => 64 - (intOf t13).toNat, ⟨0, by omega, rfl, rfl, hN, S⟩, ?_⟩
  rintro _ _ _ wr ⟨i, hi, rfl, rfl, hNi, Si⟩
  by_cases hlt : i < 64
  case neg =>
    have hlt' : ¬ (i : Int) < 64 := by omega
    have ei : i = 64 := by omega
    subst ei
    simp (disch := omega) only [r_ln, r_pick, r_pickT, r_pickF, r_condT, r_condF, r_gdTT, r_gdFF, r_gdTF, r_gdFT, r_gqTT, r_gqFF, r_gqTF, r_gqFT, r_not, r_lss, r_leq, r_gtr, r_geq, r_eql, r_neq, r_add, r_sub, r_min2, r_max2, r_min3, r_max3, r_fa, r_iaS, r_iaA, r_ex2a, r_ex2b, r_ex3a, r_ex3b, r_ex3c, r_nc, r_keepE, Nat.zero_add, Nat.add_zero, Nat.mul_one, Int.toNat_natCast, toNat_sub1, toNat_add1, decide_true, decide_false, Bool.not_true, Bool.not_false, if_true, if_false, Bool.false_eq_true, reduceCtorEq, hlt']
    exact r51_3 Si.tl hNi hok hll Si.kp hfull hK
  have hlt' : (i : Int) < 64 := by omega
  obtain ⟨g, cp, env, hbg, hcn, hfn, hsn⟩ := IntsAt.put hNi (q := i) (by rw [noL_len]; exact hlt) ((cnt l i : Nat) : Int)
  have hii : (i : Int).toNat = i := by omega
  have inv : ∀ K : Value → Prop, iaS 1 nv (.int .i64 i) K = K (.pointer (some ⟨g, i, none⟩)) := fun K => by
    rw [env, r_iaS _ _ _ _ _ _ _ (by omega) (by rw [noL_len]; omega), hii, Nat.mul_one, Nat.zero_add]
  simp (disch := omega) only [r_lss, decide_eq_true hlt', r_condT, inv]
  rw [st3 hcn hfn]
  have nown : nv.ownBlock = some g := by rw [env]; rfl
  have ch : Chg (fun q => q = g) wr (wr.setCell ⟨g, i, none⟩ (.int .i64 (cnt l i : Nat))) := Chg.setCell _ _ rfl
  rw [← noL_set hlt] at hsn
  generalize wr.setCell ⟨g, i, none⟩ (.int .i64 (cnt l i : Nat)) = w2 at *
  have S2 : QSt w0 l uv w2 t7 := ⟨Si.tl.chg ch fun q hq e => by subst e; exact rec_ne hNi Si.tl (by decide) q nown hq, Si.us.chg ch fun q hq e => by subst e; exact rec_ne hNi Si.us (by decide) q nown hq, Kp.of_chg Si.kp ch fun q e => by omega⟩
  have hul := usedL_len l
  obtain ⟨ub, uo, uc, eu, _, hcu⟩ := (S2.us.rd bC_len).at (i := i) (x := usedB l i) (by simp [usedL, hlt])
  have cu : w2.cell? ⟨ub, uo + i, none⟩ = some (.bool (usedB l i)) := by
    have := hcu 0 _ rfl
    simpa [bC] using this
  have iu : ∀ K : Value → Prop, iaS 1 uv (.int .i64 i) K = K (.pointer (some ⟨ub, uo + i, none⟩)) := fun K => by
    rw [eu, r_iaS _ _ _ _ _ _ _ (by omega) (by omega), hii, Nat.mul_one]
  rw [iu, r_ld cu]
  have hcs := cnt_succ l i
  have hcl := cnt_le l i
  refine r_join1 (fun v w' => v = .int .i64 (cnt l (i + 1) : Nat) ∧ w' = w2) ?_ fun k' hk' => ?_
  · rintro v w' ⟨rfl, rfl⟩
    rw [r_add _ _ (by omega) (by omega)]
    exact ⟨⟨i + 1, by omega, by go_num, rfl, hsn, S2⟩, by simp only [intOf]; omega⟩
  cases hb : usedB l i with
  | false =>
    simp only [r_condF]
    refine hk' _ _ ⟨?_, rfl⟩
    rw [hcs, hb]; simp
  | true =>
    simp (disch := omega) only [r_condT, r_add]
    refine hk' _ _ ⟨?_, rfl⟩
    rw [hcs, hb]; simp

set_option maxRecDepth 100000 in
theorem refprod_calls {av bv : Value} {a b : List Tile} (w : World) (ha : RdT w av a) (hb : RdT w bv b) : Calls Try.prog 51 #[av, bv] w fun e w' => Kp w w' ∧ ProdPost a b w.heap.size w' e := by
  have ha' := ha
  obtain ⟨aa, ac, eav, _⟩ := ha.len
  have lna : ∀ K : Value → Prop, ln1 av K = K (.int .i64 a.length) := fun K => by rw [eav]; rfl
  refine lift51 ?_
  unfold S51
  refine r_use fok35 (refset_calls w ha') rfl ?_
  rintro _ w1 ⟨rfl, k1⟩
  refine ⟨_, rfl, ?_⟩
  cases hsa : setB a with
  | false =>
    simp (disch := omega) only [r_ln, r_pick, r_pickT, r_pickF, r_condT, r_condF, r_gdTT, r_gdFF, r_gdTF, r_gdFT, r_gqTT, r_gqFF, r_gqTF, r_gqFT, r_not, r_lss, r_leq, r_gtr, r_geq, r_eql, r_neq, r_add, r_sub, r_min2, r_max2, r_min3, r_max3, r_fa, r_iaS, r_iaA, r_ex2a, r_ex2b, r_ex3a, r_ex3b, r_ex3c, r_nc, r_keepE, Nat.zero_add, Nat.add_zero, Nat.mul_one, Int.toNat_natCast, toNat_sub1, toNat_add1, decide_true, decide_false, Bool.not_true, Bool.not_false, if_true, if_false, Bool.false_eq_true, reduceCtorEq]
    exact ⟨k1, .inl ⟨by rw [hsa]; rfl, rfl⟩⟩
  | true =>
  simp (disch := omega) only [r_ln, r_pick, r_pickT, r_pickF, r_condT, r_condF, r_gdTT, r_gdFF, r_gdTF, r_gdFT, r_gqTT, r_gqFF, r_gqTF, r_gqFT, r_not, r_lss, r_leq, r_gtr, r_geq, r_eql, r_neq, r_add, r_sub, r_min2, r_max2, r_min3, r_max3, r_fa, r_iaS, r_iaA, r_ex2a, r_ex2b, r_ex3a, r_ex3b, r_ex3c, r_nc, r_keepE, Nat.zero_add, Nat.add_zero, Nat.mul_one, Int.toNat_natCast, toNat_sub1, toNat_add1, decide_true, decide_false, Bool.not_true, Bool.not_false, if_true, if_false, Bool.false_eq_true, reduceCtorEq]
  refine r_use fok35 (refset_calls w1 (hb.kp k1)) rfl ?_
  rintro _ w2 ⟨rfl, k2⟩
  refine ⟨_, rfl, ?_⟩
  have k02 := Kp.trans k1 k2
  cases hsb : setB b with
  | false =>
    simp (disch := omega) only [r_ln, r_pick, r_pickT, r_pickF, r_condT, r_condF, r_gdTT, r_gdFF, r_gdTF, r_gdFT, r_gqTT, r_gqFF, r_gqTF, r_gqFT, r_not, r_lss, r_leq, r_gtr, r_geq, r_eql, r_neq, r_add, r_sub, r_min2, r_max2, r_min3, r_max3, r_fa, r_iaS, r_iaA, r_ex2a, r_ex2b, r_ex3a, r_ex3b, r_ex3c, r_nc, r_keepE, Nat.zero_add, Nat.add_zero, Nat.mul_one, Int.toNat_natCast, toNat_sub1, toNat_add1, decide_true, decide_false, Bool.not_true, Bool.not_false, if_true, if_false, Bool.false_eq_true, reduceCtorEq]
    exact ⟨k02, .inl ⟨by rw [hsb, Bool.and_false], rfl⟩⟩
  | true =>
  have hia := isSet_of hsa
  have hib := isSet_of hsb
  simp (disch := omega) only [r_ln, r_pick, r_pickT, r_pickF, r_condT, r_condF, r_gdTT, r_gdFF, r_gdTF, r_gdFT, r_gqTT, r_gqFF, r_gqTF, r_gqFT, r_not, r_lss, r_leq, r_gtr, r_geq, r_eql, r_neq, r_add, r_sub, r_min2, r_max2, r_min3, r_max3, r_fa, r_iaS, r_iaA, r_ex2a, r_ex2b, r_ex3a, r_ex3b, r_ex3c, r_nc, r_keepE, Nat.zero_add, Nat.add_zero, Nat.mul_one, Int.toNat_natCast, toNat_sub1, toNat_add1, decide_true, decide_false, Bool.not_true, Bool.not_false, if_true, if_false, Bool.false_eq_true, reduceCtorEq]
  have e64 : (Value.int .i64 64) = .int .i64 ((64 : Nat) : Int) := rfl
  rw [e64]
  refine mk91 (by decide) fun uv w3 o3 k3 _ => ?_
  rw [← usedL_nil] at o3
  unfold S51L0
  have hal := hia.most
  have hbl := hib.most
  have hplen : ∀ i, (allP (a.take i) b).length ≤ 256 := fun i => by
    have h1 := allP_len (a := a.take i) (b := b)
    have h2 : (a.take i).length ≤ 16 := by rw [List.length_take]; omega
    have := Nat.mul_le_mul h2 hbl
    omega
  refine ⟨fun t7 t8 wr => ∃ i : Nat, i ≤ a.length ∧ t8 = .int .i64 i ∧ QSt w2 (allP (a.take i) b) uv wr t7, fun _ t8 _ => a.length - (intOf t8).toNat, ⟨0, by omega, rfl, ⟨RecAt.nil, o3, k3⟩⟩, ?_⟩
  rintro _ t7 _ wr ⟨i, hi, rfl, Si⟩
  rw [lna]
  by_cases hlt : i < a.length
  case pos =>
    have hlt' : (i : Int) < (a.length : Int) := by omega
    have hst : allP (a.take (i + 1)) b = allP (a.take i) b ++ under1 b a[i] := by
      unfold allP
      rw [take_succ' _ _ hlt, List.flatMap_append]; simp
    have hpre := hplen i
    simp (disch := omega) only [r_lss, decide_eq_true hlt', r_condT]
    refine r51_1 Si (ha'.kp k02) (List.getElem?_eq_getElem hlt) (hb.kp k02) (hia.cols _ (List.getElem_mem hlt)) hib.cols hbl (by omega) (by omega) fun v w' S' => ?_
    exact ⟨⟨i + 1, by omega, by go_num, by rw [hst]; exact S'⟩, by simp only [intOf]; omega⟩
  have hlt' : ¬ (i : Int) < (a.length : Int) := by omega
  have hpre := hplen i
  rw [List.take_of_length_le (by omega)] at Si hpre
  simp (disch := omega) only [r_lss, hlt', decide_false, r_condF]
  refine mk30' (by decide) fun nv w4 o4 k4 _ => ?_
  rw [← noL_zero (allP a b)] at o4
  refine r51_2 (Si.later k4) (o4.down Si.kp.size) (allP_ok hia.cols hib.cols) (by omega) (fun w' kk hf => ⟨Kp.trans k02 kk, .inr (.inl ⟨by rw [hsa, hsb]; rfl, hf, rfl⟩)⟩) fun v w' kk hf ho => ⟨Kp.trans k02 kk, .inr (.inr ⟨by rw [hsa, hsb]; rfl, hf, v, rfl, ho.down k02.size⟩)⟩

end Go.Proofs.Ytgalbokmgffhkaa
