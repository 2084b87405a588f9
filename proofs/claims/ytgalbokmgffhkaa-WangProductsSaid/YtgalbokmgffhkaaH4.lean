/- Contract: Product of the program. -/
import Derived.Test.YtgalbokmgffhkaaH3
import Derived.Test.YtgalbokmgffhkaaG3
set_option linter.all false
namespace Go.Proofs.Ytgalbokmgffhkaa
open Go.Lf Go.RowKit Go.Wg

theorem fok97' : fnOk Try.prog 97 = true := by kernel_rfl
theorem fok98' : fnOk Try.prog 98 = true := by kernel_rfl

set_option maxRecDepth 100000 in
set_option maxHeartbeats 800000 in
/-- The loop that puts numbers for colours. -/
theorem r50_2 {w0 w : World} {t6 cv : Value} {P : List Tile} {cs : List Int} {K : Ending → World → Prop} (hP : TlAt w0.heap.size w t6 P) (hc : IntsAt w0.heap.size w cv cs) (hcl : cs.length ≤ 1000) (hPl : P.length ≤ 1000) (hk : Kp w0 w)
    (hK : ∀ w', TlAt w0.heap.size w' t6 (P.map (renC cs)) → Kp w0 w' → K (.returned (.tuple #[t6, .int .i64 0])) w') : S50L2 t6 cv (.int .i64 P.length) K w := by
  unfold S50L2
  refine ⟨fun t wr => ∃ i : Nat, i ≤ P.length ∧ t = .int .i64 i ∧ TlAt w0.heap.size wr t6 ((P.take i).map (renC cs) ++ P.drop i) ∧ IntsAt w0.heap.size wr cv cs ∧ Kp w0 wr, fun t _ => P.length - (intOf t).toNat, ⟨0, by omega, rfl, by simpa using hP, hc, hk⟩, ?_⟩
  rintro _ _ wr ⟨i, hi, rfl, hR, hcr, kr⟩
  by_cases hlt : i < P.length
  case neg =>
    have hlt' : ¬ (i : Int) < (P.length : Int) := by omega
    rw [List.take_of_length_le (by omega), List.drop_eq_nil_of_le (by omega), List.append_nil] at hR
    simp (disch := omega) only [r_ln, r_pick, r_pickT, r_pickF, r_condT, r_condF, r_gdTT, r_gdFF, r_gdTF, r_gdFT, r_gqTT, r_gqFF, r_gqTF, r_gqFT, r_not, r_lss, r_leq, r_gtr, r_geq, r_eql, r_neq, r_add, r_sub, r_min2, r_max2, r_min3, r_max3, r_fa, r_iaS, r_iaA, r_ex2a, r_ex2b, r_ex3a, r_ex3b, r_ex3c, r_nc, r_keepE, Nat.zero_add, Nat.add_zero, Nat.mul_one, Int.toNat_natCast, toNat_sub1, toNat_add1, decide_true, decide_false, Bool.not_true, Bool.not_false, if_true, if_false, Bool.false_eq_true, reduceCtorEq, hlt']
    exact hK _ hR kr
  have hlt' : (i : Int) < (P.length : Int) := by omega
  have hlen : ((P.take i).map (renC cs) ++ P.drop i).length = P.length := by simp; omega
  have hat : ((P.take i).map (renC cs) ++ P.drop i)[i]? = some P[i] := by
    have hl : ((P.take i).map (renC cs)).length = i := by simp; omega
    rw [List.getElem?_append_right (by omega), hl, Nat.sub_self, List.getElem?_drop, Nat.add_zero, List.getElem?_eq_getElem hlt]
  have hset : ((P.take i).map (renC cs) ++ P.drop i).set i (renC cs P[i]) = (P.take (i + 1)).map (renC cs) ++ P.drop (i + 1) := by
    have hl : ((P.take i).map (renC cs)).length = i := by simp; omega
    rw [List.set_append_right _ _ (by omega), hl, Nat.sub_self, List.drop_eq_getElem_cons hlt, List.set_cons_zero, take_succ' _ _ hlt, List.map_append]
    simp
  generalize (P.take i).map (renC cs) ++ P.drop i = Q at *
  generalize hp : P[i] = p at *
  obtain ⟨b, off, cap, e6, _, hcell⟩ := (hR.rd tlC_len).at hat
  obtain ⟨g, cap', e6', hbg, _, _, _⟩ := RecAt.set (j := 1) (p' := (tN p, idxI cs (tE p), tS p, tW p)) (u := .int .i64 (idxI cs (tE p))) tlC_len hR hat (by omega) rfl
  rw [e6'] at e6
  have eb : b = g ∧ off = 0 ∧ cap = cap' := by
    injection e6 with h1 h2 h3
    injection h1 with h1
    injection h1 with h1 h2 _
    exact ⟨h1.symm, h2.symm, h3.symm⟩
  obtain ⟨rfl, rfl, rfl⟩ := eb
  have hown : t6.ownBlock = some b := by rw [e6']; rfl
  have hii : (i : Int).toNat = i := by omega
  rw [hlen] at e6'
  have hiaS : ∀ K : Value → Prop, iaS 4 t6 (.int .i64 i) K = K (.pointer (some ⟨b, 0 + i * 4, none⟩)) := fun K => by rw [e6', r_iaS _ _ _ _ _ _ _ (by omega) (by omega), hii]
  simp (disch := omega) only [r_lss, decide_eq_true hlt', r_condT]
  rw [hiaS, r_ldCells (tlC_len p) hcell]
  refine r_box fun b15 w2 e15 s15 h15 k15 => ?_
  refine r_stAll (n := 4) (ty := 32) (by kernel_rfl) rfl (by intro u hu; simp [Value.cells, tlC] at hu; rcases hu with rfl | rfl | rfl | rfl <;> rfl) h15 rfl fun w3 c3 s3 h3 => ?_
  have k3 : Kp wr w3 := Kp.of_chg k15 c3 fun q e => by omega
  refine r_drew fun w4 k4 _ => ?_
  have k34 := Kp.trans k3 k4
  have h4 := block_below h3 k4
  have gl := (hR.lt hown).2
  have nX : ¬ b15 = b := by omega
  have d1 : w4.cell? ⟨b15, 1, none⟩ = some (.int .i64 (tE p)) := by rw [cell_row h4]; rfl
  have d3 : w4.cell? ⟨b15, 3, none⟩ = some (.int .i64 (tW p)) := by rw [cell_row h4]; rfl
  refine ⟨fun q => q = b, ?_⟩
  simp only [r_tx, r_fa, Nat.zero_add, r_txl (X := fun q => q = b) d1 nX, r_txl (X := fun q => q = b) d3 nX]
  have hc4 := hcr.kp k34
  have hi4 : RdInts w4 cv cs := Rd.ints (hc4.rd iC_len) (by omega)
  refine r_use fok101 (idx101_calls (tE p) w4 hi4) rfl ?_
  rintro _ w5 ⟨rfl, k5⟩
  refine ⟨_, rfl, BX.of_below k5, ?_⟩
  refine r_use fok101 (idx101_calls (tW p) w5 (hi4.below k5)) rfl ?_
  rintro _ w6 ⟨rfl, k6⟩
  refine ⟨_, rfl, BX.of_below k6, ?_⟩
  have k36 := Kp.trans k34 (Kp.trans k5 k6)
  have hR6 := hR.kp k36
  obtain ⟨g1, cap1, e1, _, ⟨u1, cu1⟩, f1, o1⟩ := RecAt.set (j := 1) (p' := (tN p, idxI cs (tE p), tS p, tW p)) (u := .int .i64 (idxI cs (tE p))) tlC_len hR6 hat (by omega) rfl
  have hg1 : g1 = b := by
    rw [e1] at hown
    injection hown
  subst hg1
  have hat2 : (Q.set i (tN p, idxI cs (tE p), tS p, tW p))[i]? = some (tN p, idxI cs (tE p), tS p, tW p) := by
    rw [List.getElem?_set_self (by have := (List.getElem?_eq_some_iff.1 hat).1; exact this)]
  obtain ⟨g2, cap2, e2, _, ⟨u2, cu2⟩, f2, o2⟩ := RecAt.set (j := 3) (p' := renC cs p) (u := .int .i64 (idxI cs (tW p))) tlC_len o1 hat2 (by omega) rfl
  have hg2 : g2 = g1 := by
    rw [e2] at hown
    injection hown
  subst hg2
  have ha1 : (⟨g2, 0 + i * 4, none⟩ : Addr).add 1 = ⟨g2, i * 4 + 1, none⟩ := by rw [r_addr, Nat.zero_add]
  simp only [hiaS, r_tx, r_fa, Nat.zero_add]
  rw [st3 cu1 f1, r_keepWE]
  have hch : Chg (fun q => q = g2) w6 (w6.setCell ⟨g2, i * 4 + 1, none⟩ (.int .i64 (idxI cs (tE p)))) := Chg.setCell _ _ rfl
  refine ⟨BX.of_chg hch, ?_⟩
  try simp only [hiaS, r_tx, r_fa, Nat.zero_add]
  rw [st3 cu2 f2]
  have hch2 : Chg (fun q => q = g2) (w6.setCell ⟨g2, i * 4 + 1, none⟩ (.int .i64 (idxI cs (tE p)))) ((w6.setCell ⟨g2, i * 4 + 1, none⟩ (.int .i64 (idxI cs (tE p)))).setCell ⟨g2, i * 4 + 3, none⟩ (.int .i64 (idxI cs (tW p)))) := Chg.setCell _ _ rfl
  have hch12 := hch.trans hch2
  try simp (disch := omega) only [r_ln, r_pick, r_pickT, r_pickF, r_condT, r_condF, r_gdTT, r_gdFF, r_gdTF, r_gdFT, r_gqTT, r_gqFF, r_gqTF, r_gqFT, r_not, r_lss, r_leq, r_gtr, r_geq, r_eql, r_neq, r_add, r_sub, r_min2, r_max2, r_min3, r_max3, r_fa, r_iaS, r_iaA, r_ex2a, r_ex2b, r_ex3a, r_ex3b, r_ex3c, r_nc, r_keepE, Nat.zero_add, Nat.add_zero, Nat.mul_one, Int.toNat_natCast, toNat_sub1, toNat_add1, decide_true, decide_false, Bool.not_true, Bool.not_false, if_true, if_false, Bool.false_eq_true, reduceCtorEq]
  rw [List.set_set, hset] at o2
  refine ⟨⟨i + 1, by omega, by go_num, o2, (hcr.kp k36).chg hch12 fun q hq e => ?_, Kp.of_chg (Kp.trans kr k36) hch12 fun q e => by rw [e]; exact hbg⟩, by simp only [intOf]; omega⟩
  subst e
  exact rec_ne hR hcr (by decide) q hown hq

/-- What Product returns. -/
def ProdPost (a b : List Tile) (base : Nat) (w' : World) (e : Ending) : Prop :=
  ((setB a && setB b) = false ∧ e = .returned (.tuple #[nilS, .int .i64 2])) ∨
  ((setB a && setB b) = true ∧ prodF (allP a b) = true ∧ e = .returned (.tuple #[nilS, .int .i64 8])) ∨
  ((setB a && setB b) = true ∧ prodF (allP a b) = false ∧ ∃ v, e = .returned (.tuple #[v, .int .i64 0]) ∧ TlAt base w' v (prodT (allP a b)))

set_option maxRecDepth 100000 in
theorem r50_0 {w : World} {av bv : Value} {a b : List Tile} {K : Ending → World → Prop} (ha : RdT w av a) (hb : RdT w bv b) (hsa : IsSet a) (hsb : IsSet b)
    (hfull : ∀ w', Kp w w' → prodF (allP a b) = true → K (.returned (.tuple #[nilS, .int .i64 8])) w')
    (hK : ∀ v w', Kp w w' → prodF (allP a b) = false → TlAt w.heap.size w' v (prodT (allP a b)) → K (.returned (.tuple #[v, .int .i64 0])) w') : S50L0 av bv (.int .i64 a.length) K w := by
  have hb0 := hb
  obtain ⟨ba, bc, rfl, _⟩ := hb.len
  unfold S50L0
  have hal := hsa.most
  have hbl := hsb.most
  have hplen : ∀ i, (allP (a.take i) b).length ≤ 256 := fun i => by
    have h1 := allP_len (a := a.take i) (b := b)
    have h2 : (a.take i).length ≤ 16 := by rw [List.length_take]; omega
    have := Nat.mul_le_mul h2 hbl
    omega
  refine ⟨fun t6 t8 t26 wr => ∃ i : Nat, i ≤ a.length ∧ t26 = .int .i64 i ∧ TlAt w.heap.size wr t6 (once (allP (a.take i) b)) ∧ IntsAt w.heap.size wr t8 (ends (once (allP (a.take i) b))) ∧ Kp w wr, fun _ _ t26 _ => a.length - (intOf t26).toNat, ⟨0, by omega, rfl, RecAt.nil, RecAt.nil, Kp.refl _⟩, ?_⟩
  rintro _ t6 t8 _ wr ⟨i, hi, rfl, hT, hE, kr⟩
  by_cases hlt : i < a.length
  case pos =>
    have hlt' : (i : Int) < (a.length : Int) := by omega
    obtain ⟨ab, ao, ac, eav, _, hcell⟩ := (ha.kp kr).at (List.getElem?_eq_getElem hlt)
    subst eav
    have hii : (i : Int).toNat = i := by omega
    have hpre := hplen i
    have hst : allP (a.take (i + 1)) b = allP (a.take i) b ++ under1 b a[i] := by
      unfold allP
      rw [take_succ' _ _ hlt, List.flatMap_append]; simp
    have hsc := hsa.cols _ (List.getElem_mem hlt)
    generalize a[i] = s at *
    simp (disch := omega) only [r_lss, decide_eq_true hlt', r_condT, r_iaS, hii, r_ldCells (tlC_len s) hcell]
    refine r_box fun b10 w2 e10 s10 h10 k10 => ?_
    refine r_stAll (n := 4) (ty := 32) (by kernel_rfl) rfl (by intro u hu; simp [Value.cells, tlC] at hu; rcases hu with rfl | rfl | rfl | rfl <;> rfl) h10 rfl fun w3 c3 s3 h3 => ?_
    have k3 : Kp wr w3 := Kp.of_chg k10 c3 fun q e => by omega
    simp only [r_ln]
    refine r50_1 (w0 := w) (pre := allP (a.take i) b) ⟨hT.kp k3, hE.kp k3, Kp.trans kr k3, h3, fun q hq e => by have := (hT.lt hq).2; omega⟩ hb0 hsc hsb.cols hbl (by omega) (by omega) fun v6 v8 w' S' => ?_
    refine ⟨⟨i + 1, by omega, by go_num, ?_, ?_, S'.kp⟩, by simp only [intOf]; omega⟩
    · rw [hst]; exact S'.tl
    · rw [hst]; exact S'.ps
  have hlt' : ¬ (i : Int) < (a.length : Int) := by omega
  have hpre := hplen i
  rw [List.take_of_length_le (by omega)] at hT hE hpre
  have hok := allP_ok hsa.cols hsb.cols
  generalize allP a b = l at *
  have hol := once_len_le l
  have hel := ends_len (once l)
  simp (disch := omega) only [r_ln, r_pick, r_pickT, r_pickF, r_condT, r_condF, r_gdTT, r_gdFF, r_gdTF, r_gdFT, r_gqTT, r_gqFF, r_gqTF, r_gqFT, r_not, r_lss, r_leq, r_gtr, r_geq, r_eql, r_neq, r_add, r_sub, r_min2, r_max2, r_min3, r_max3, r_fa, r_iaS, r_iaA, r_ex2a, r_ex2b, r_ex3a, r_ex3b, r_ex3c, r_nc, r_keepE, Nat.zero_add, Nat.add_zero, Nat.mul_one, Int.toNat_natCast, toNat_sub1, toNat_add1, decide_true, decide_false, Bool.not_true, Bool.not_false, if_true, if_false, Bool.false_eq_true, reduceCtorEq, hlt']
  refine r_use fok97' (sortI_calls hE (by omega)) rfl ?_
  rintro _ w2 ⟨rfl, o2, c2⟩
  refine ⟨_, rfl, ?_⟩
  have k2 : Kp w w2 := Kp.of_chg kr c2 fun k e => (hE.lt e).1
  have hT2 := hT.chg c2 fun q hq e => rec_ne hE hT (by decide) q e hq
  refine r_use fok98' (compI_calls o2 (by rw [List.length_mergeSort]; omega)) rfl ?_
  rintro _ w3 ⟨v3, rfl, o3, c3⟩
  refine ⟨_, rfl, ?_⟩
  have k3 : Kp w w3 := Kp.of_chg k2 c3 fun k e => (o2.lt e).1
  have hT3 := hT2.chg c3 fun q hq e => rec_ne o2 hT2 (by decide) q e hq
  rw [comp_ends hok] at o3
  have hcl := codesP_len l
  have hc64 := cnt_le l 64
  obtain ⟨a6, c6, e6, _⟩ := hT3.len
  obtain ⟨a3, c3', e3, _⟩ := o3.len
  have ln6 : ∀ K : Value → Prop, ln1 t6 K = K (.int .i64 (once l).length) := fun K => by rw [e6]; rfl
  have ln3 : ∀ K : Value → Prop, ln1 v3 K = K (.int .i64 (codesP l).length) := fun K => by rw [e3]; rfl
  by_cases g1 : (16 : Int) < ((once l).length : Int)
  · simp (disch := omega) only [r_ln, r_pick, r_pickT, r_pickF, r_condT, r_condF, r_gdTT, r_gdFF, r_gdTF, r_gdFT, r_gqTT, r_gqFF, r_gqTF, r_gqFT, r_not, r_lss, r_leq, r_gtr, r_geq, r_eql, r_neq, r_add, r_sub, r_min2, r_max2, r_min3, r_max3, r_fa, r_iaS, r_iaA, r_ex2a, r_ex2b, r_ex3a, r_ex3b, r_ex3c, r_nc, r_keepE, Nat.zero_add, Nat.add_zero, Nat.mul_one, Int.toNat_natCast, toNat_sub1, toNat_add1, decide_true, decide_false, Bool.not_true, Bool.not_false, if_true, if_false, Bool.false_eq_true, reduceCtorEq, ln6, decide_eq_true g1]
    exact hfull _ k3 (by rw [prodF, decide_eq_true (by omega), Bool.true_or])
  by_cases g2 : (8 : Int) < ((codesP l).length : Int)
  · simp (disch := omega) only [r_ln, r_pick, r_pickT, r_pickF, r_condT, r_condF, r_gdTT, r_gdFF, r_gdTF, r_gdFT, r_gqTT, r_gqFF, r_gqTF, r_gqFT, r_not, r_lss, r_leq, r_gtr, r_geq, r_eql, r_neq, r_add, r_sub, r_min2, r_max2, r_min3, r_max3, r_fa, r_iaS, r_iaA, r_ex2a, r_ex2b, r_ex3a, r_ex3b, r_ex3c, r_nc, r_keepE, Nat.zero_add, Nat.add_zero, Nat.mul_one, Int.toNat_natCast, toNat_sub1, toNat_add1, decide_true, decide_false, Bool.not_true, Bool.not_false, if_true, if_false, Bool.false_eq_true, reduceCtorEq, ln6, g1, ln3, decide_eq_true g2]
    exact hfull _ k3 (by rw [prodF, decide_eq_true (show 8 < cnt l 64 by omega), Bool.or_true])
  simp (disch := omega) only [r_ln, r_pick, r_pickT, r_pickF, r_condT, r_condF, r_gdTT, r_gdFF, r_gdTF, r_gdFT, r_gqTT, r_gqFF, r_gqTF, r_gqFT, r_not, r_lss, r_leq, r_gtr, r_geq, r_eql, r_neq, r_add, r_sub, r_min2, r_max2, r_min3, r_max3, r_fa, r_iaS, r_iaA, r_ex2a, r_ex2b, r_ex3a, r_ex3b, r_ex3c, r_nc, r_keepE, Nat.zero_add, Nat.add_zero, Nat.mul_one, Int.toNat_natCast, toNat_sub1, toNat_add1, decide_true, decide_false, Bool.not_true, Bool.not_false, if_true, if_false, Bool.false_eq_true, reduceCtorEq, ln6, g1, ln3, g2]
  have hpf : prodF l = false := by rw [prodF, decide_eq_false (by omega), decide_eq_false (by omega)]; rfl
  exact r50_2 hT3 o3 (by omega) (by omega) k3 fun w' ho kk => hK _ w' kk hpf ho

set_option maxRecDepth 100000 in
theorem prod50_calls {av bv : Value} {a b : List Tile} (w : World) (ha : RdT w av a) (hb : RdT w bv b) : Calls Try.prog 50 #[av, bv] w fun e w' => Kp w w' ∧ ProdPost a b w.heap.size w' e := by
  have ha' := ha
  obtain ⟨aa, ac, rfl, _⟩ := ha.len
  refine lift50 ?_
  unfold S50
  refine r_use fok65 (valid_calls w ha') rfl ?_
  rintro _ w1 ⟨rfl, k1⟩
  refine ⟨_, rfl, ?_⟩
  cases hsa : setB a with
  | false =>
    simp (disch := omega) only [r_ln, r_pick, r_pickT, r_pickF, r_condT, r_condF, r_gdTT, r_gdFF, r_gdTF, r_gdFT, r_gqTT, r_gqFF, r_gqTF, r_gqFT, r_not, r_lss, r_leq, r_gtr, r_geq, r_eql, r_neq, r_add, r_sub, r_min2, r_max2, r_min3, r_max3, r_fa, r_iaS, r_iaA, r_ex2a, r_ex2b, r_ex3a, r_ex3b, r_ex3c, r_nc, r_keepE, Nat.zero_add, Nat.add_zero, Nat.mul_one, Int.toNat_natCast, toNat_sub1, toNat_add1, decide_true, decide_false, Bool.not_true, Bool.not_false, if_true, if_false, Bool.false_eq_true, reduceCtorEq]
    exact ⟨k1, .inl ⟨by rw [hsa]; rfl, rfl⟩⟩
  | true =>
  simp (disch := omega) only [r_ln, r_pick, r_pickT, r_pickF, r_condT, r_condF, r_gdTT, r_gdFF, r_gdTF, r_gdFT, r_gqTT, r_gqFF, r_gqTF, r_gqFT, r_not, r_lss, r_leq, r_gtr, r_geq, r_eql, r_neq, r_add, r_sub, r_min2, r_max2, r_min3, r_max3, r_fa, r_iaS, r_iaA, r_ex2a, r_ex2b, r_ex3a, r_ex3b, r_ex3c, r_nc, r_keepE, Nat.zero_add, Nat.add_zero, Nat.mul_one, Int.toNat_natCast, toNat_sub1, toNat_add1, decide_true, decide_false, Bool.not_true, Bool.not_false, if_true, if_false, Bool.false_eq_true, reduceCtorEq]
  refine r_use fok65 (valid_calls w1 (hb.kp k1)) rfl ?_
  rintro _ w2 ⟨rfl, k2⟩
  refine ⟨_, rfl, ?_⟩
  have k02 := Kp.trans k1 k2
  cases hsb : setB b with
  | false =>
    simp (disch := omega) only [r_ln, r_pick, r_pickT, r_pickF, r_condT, r_condF, r_gdTT, r_gdFF, r_gdTF, r_gdFT, r_gqTT, r_gqFF, r_gqTF, r_gqFT, r_not, r_lss, r_leq, r_gtr, r_geq, r_eql, r_neq, r_add, r_sub, r_min2, r_max2, r_min3, r_max3, r_fa, r_iaS, r_iaA, r_ex2a, r_ex2b, r_ex3a, r_ex3b, r_ex3c, r_nc, r_keepE, Nat.zero_add, Nat.add_zero, Nat.mul_one, Int.toNat_natCast, toNat_sub1, toNat_add1, decide_true, decide_false, Bool.not_true, Bool.not_false, if_true, if_false, Bool.false_eq_true, reduceCtorEq]
    exact ⟨k02, .inl ⟨by rw [hsb, Bool.and_false], rfl⟩⟩
  | true =>
  simp (disch := omega) only [r_ln, r_pick, r_pickT, r_pickF, r_condT, r_condF, r_gdTT, r_gdFF, r_gdTF, r_gdFT, r_gqTT, r_gqFF, r_gqTF, r_gqFT, r_not, r_lss, r_leq, r_gtr, r_geq, r_eql, r_neq, r_add, r_sub, r_min2, r_max2, r_min3, r_max3, r_fa, r_iaS, r_iaA, r_ex2a, r_ex2b, r_ex3a, r_ex3b, r_ex3c, r_nc, r_keepE, Nat.zero_add, Nat.add_zero, Nat.mul_one, Int.toNat_natCast, toNat_sub1, toNat_add1, decide_true, decide_false, Bool.not_true, Bool.not_false, if_true, if_false, Bool.false_eq_true, reduceCtorEq]
  exact r50_0 (ha'.kp k02) (hb.kp k02) (isSet_of hsa) (isSet_of hsb) (fun w' kk hf => ⟨Kp.trans k02 kk, .inr (.inl ⟨by rw [hsa, hsb]; rfl, hf, rfl⟩)⟩) fun v w' kk hf ho => ⟨Kp.trans k02 kk, .inr (.inr ⟨by rw [hsa, hsb]; rfl, hf, v, rfl, ho.down k02.size⟩)⟩

end Go.Proofs.Ytgalbokmgffhkaa
