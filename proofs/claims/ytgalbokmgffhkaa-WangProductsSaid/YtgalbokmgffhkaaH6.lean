/- Contract: Product of the specification. -/
import Derived.Test.YtgalbokmgffhkaaH5
set_option linter.all false
namespace Go.Proofs.Ytgalbokmgffhkaa
open Go.Lf Go.RowKit Go.Wg

set_option maxRecDepth 100000 in
/-- Is a tile among those that are there? If not, it is put behind them. -/
theorem r51_4 {w0 w : World} {t14 : Value} {out : List Tile} {b16 i : Nat} {u : Tile} {next : Value → Value → World → Prop} (hO : TlAt w0.heap.size w t14 out) (h16 : w.heap[b16]? = some (.cells (tlV u).cells 32 (0, 0))) (hol : out.length ≤ 1000) (hi : i ≤ 1000) (hk : Kp w0 w)
    (hn : ∀ v w', TlAt w0.heap.size w' v (addU out u) → (∀ q, t14.ownBlock = some q ∨ Kp w w' → True) → Chg (fun k => t14.ownBlock = some k) w w' → Kp w0 w' → next v (.int .i64 ((i : Int) + 1)) w') :
    S51L4 t14 (.int .i64 i) (.pointer (some ⟨b16, 0, none⟩)) next w := by
  obtain ⟨oa, oc, eo, _⟩ := hO.len
  have lno : ∀ K : Value → Prop, ln1 t14 K = K (.int .i64 out.length) := fun K => by rw [eo]; rfl
  unfold S51L4
  refine ⟨fun t17 t18 wr => ∃ k : Nat, k ≤ out.length ∧ t18 = .int .i64 k ∧ t17 = .bool (decide (u ∈ out.take k)) ∧ Kp w wr, fun _ t18 _ => out.length - (intOf t18).toNat, ⟨0, by omega, rfl, by simp, Kp.refl _⟩, ?_⟩
  rintro _ _ _ wr ⟨k, hkl, rfl, rfl, kr⟩
  rw [lno]
  have hOr := hO.kp kr
  have h16r := block_below h16 kr
  by_cases hlt : k < out.length
  case pos =>
    have hlt' : (k : Int) < (out.length : Int) := by omega
    simp (disch := omega) only [r_lss, decide_eq_true hlt', r_condT]
    refine r_drew fun w2 k2 _ => ?_
    have kr2 := Kp.trans kr k2
    have htk : (u ∈ out.take (k + 1)) ↔ (u ∈ out.take k ∨ u = out[k]) := by
      rw [take_succ' _ _ hlt, List.mem_append]; simp
    by_cases hin : u ∈ out.take k
    · simp (disch := omega) only [r_ln, r_pick, r_pickT, r_pickF, r_condT, r_condF, r_gdTT, r_gdFF, r_gdTF, r_gdFT, r_gqTT, r_gqFF, r_gqTF, r_gqFT, r_not, r_lss, r_leq, r_gtr, r_geq, r_eql, r_neq, r_add, r_sub, r_min2, r_max2, r_min3, r_max3, r_fa, r_iaS, r_iaA, r_ex2a, r_ex2b, r_ex3a, r_ex3b, r_ex3c, r_nc, r_keepE, Nat.zero_add, Nat.add_zero, Nat.mul_one, Int.toNat_natCast, toNat_sub1, toNat_add1, decide_true, decide_false, Bool.not_true, Bool.not_false, if_true, if_false, Bool.false_eq_true, reduceCtorEq, decide_eq_true hin]
      exact ⟨⟨k + 1, by omega, by go_num, by rw [decide_eq_true (htk.2 (.inl hin))], kr2⟩, by simp only [intOf]; omega⟩
    · obtain ⟨b, off, cap, e, _, hcell⟩ := ((hO.kp kr2).rd tlC_len).at (List.getElem?_eq_getElem hlt)
      have hkk : (k : Int).toNat = k := by omega
      have h162 := block_below h16r k2
      subst e
      simp (disch := omega) only [r_ln, r_pick, r_pickT, r_pickF, r_condT, r_condF, r_gdTT, r_gdFF, r_gdTF, r_gdFT, r_gqTT, r_gqFF, r_gqTF, r_gqFT, r_not, r_lss, r_leq, r_gtr, r_geq, r_eql, r_neq, r_add, r_sub, r_min2, r_max2, r_min3, r_max3, r_fa, r_iaS, r_iaA, r_ex2a, r_ex2b, r_ex3a, r_ex3b, r_ex3c, r_nc, r_keepE, Nat.zero_add, Nat.add_zero, Nat.mul_one, Int.toNat_natCast, toNat_sub1, toNat_add1, decide_true, decide_false, Bool.not_true, Bool.not_false, if_true, if_false, Bool.false_eq_true, reduceCtorEq, hin, hkk, r_ldCells (tlC_len _) hcell, r_ldRow (n := 4) h162 rfl]
      have ev : ∀ t : Tile, Value.agg (tlC t).toArray = tlV t := fun t => rfl
      have ev2 : Value.agg (tlV u).cells = tlV u := rfl
      rw [ev, ev2, r_eq32]
      try simp (disch := omega) only [r_ln, r_pick, r_pickT, r_pickF, r_condT, r_condF, r_gdTT, r_gdFF, r_gdTF, r_gdFT, r_gqTT, r_gqFF, r_gqTF, r_gqFT, r_not, r_lss, r_leq, r_gtr, r_geq, r_eql, r_neq, r_add, r_sub, r_min2, r_max2, r_min3, r_max3, r_fa, r_iaS, r_iaA, r_ex2a, r_ex2b, r_ex3a, r_ex3b, r_ex3c, r_nc, r_keepE, Nat.zero_add, Nat.add_zero, Nat.mul_one, Int.toNat_natCast, toNat_sub1, toNat_add1, decide_true, decide_false, Bool.not_true, Bool.not_false, if_true, if_false, Bool.false_eq_true, reduceCtorEq]
      refine ⟨⟨k + 1, by omega, by go_num, ?_, kr2⟩, by simp only [intOf]; omega⟩
      congr 1
      rw [decide_eq_decide, htk]
      constructor
      · intro h; exact .inr h.symm
      · rintro (h | h)
        · exact absurd h hin
        · exact h.symm
  have hlt' : ¬ (k : Int) < (out.length : Int) := by omega
  rw [List.take_of_length_le (by omega)]
  simp (disch := omega) only [r_lss, hlt', decide_false, r_condF, r_not]
  have kk0 := Kp.trans hk kr
  refine r_join1 (fun v w' => TlAt w0.heap.size w' v (addU out u) ∧ Chg (fun k => t14.ownBlock = some k) w w' ∧ Kp w0 w') ?_ fun k' hk' => ?_
  · rintro v w' ⟨ho, hc, kk⟩
    rw [r_add _ _ (by omega) (by omega)]
    exact hn v w' ho (fun _ _ => trivial) hc kk
  by_cases hin : u ∈ out
  · simp only [decide_eq_true hin, Bool.not_true, r_condF]
    refine hk' _ _ ⟨?_, Chg.of_kp kr, kk0⟩
    rw [addU, if_pos hin]; exact hOr
  · simp only [hin, decide_false, Bool.not_false, r_condT]
    rw [r_ldRow (n := 4) h16r rfl]
    refine r_pushT' (t := u) hOr (by omega) kk0.size fun v w' ho hc => ?_
    exact hk' _ _ ⟨by rw [addU, if_neg hin]; exact ho, (Chg.of_kp kr).trans hc, Kp.of_chg kk0 hc fun q e => (hOr.lt e).1⟩

set_option maxRecDepth 100000 in
set_option maxHeartbeats 800000 in
theorem r51_3 {w0 w : World} {t7 nv : Value} {l : List Tile} {K : Ending → World → Prop} (hT : TlAt w0.heap.size w t7 l) (hN : IntsAt w0.heap.size w nv (noL l 64)) (hok : pairOk l) (hll : l.length ≤ 500) (hk : Kp w0 w)
    (hfull : ∀ w', Kp w0 w' → prodF l = true → K (.returned (.tuple #[nilS, .int .i64 8])) w')
    (hK : ∀ v w', Kp w0 w' → prodF l = false → TlAt w0.heap.size w' v (prodT l) → K (.returned (.tuple #[v, .int .i64 0])) w') : S51L3 t7 (.int .i64 (cnt l 64 : Nat)) nv K w := by
  obtain ⟨ta, tc, et, _⟩ := hT.len
  have lnt : ∀ K : Value → Prop, ln1 t7 K = K (.int .i64 l.length) := fun K => by rw [et]; rfl
  unfold S51L3
  refine ⟨fun t14 t15 wr => ∃ i : Nat, i ≤ l.length ∧ t15 = .int .i64 i ∧ TlAt w.heap.size wr t14 (once ((l.take i).map (renS l))) ∧ Kp w wr, fun _ t15 _ => l.length - (intOf t15).toNat, ⟨0, by omega, rfl, RecAt.nil, Kp.refl _⟩, ?_⟩
  rintro _ t14 _ wr ⟨i, hi, rfl, hO, kr⟩
  rw [lnt]
  have hol : (once ((l.take i).map (renS l))).length ≤ 500 := by
    have h1 := once_len_le ((l.take i).map (renS l))
    rw [List.length_map, List.length_take] at h1
    omega
  by_cases hlt : i < l.length
  case pos =>
    have hlt' : (i : Int) < (l.length : Int) := by omega
    obtain ⟨b, off, cap, e, _, hcell⟩ := ((hT.kp kr).rd tlC_len).at (List.getElem?_eq_getElem hlt)
    have hii : (i : Int).toNat = i := by omega
    have hrng := hok _ (List.getElem_mem hlt)
    have hstep : once ((l.take (i + 1)).map (renS l)) = addU (once ((l.take i).map (renS l))) (renS l l[i]) := by
      rw [take_succ' _ _ hlt, List.map_append, once_append]; rfl
    generalize l[i] = t at *
    have ia : ∀ K : Value → Prop, iaS 4 t7 (.int .i64 i) K = K (.pointer (some ⟨b, off + i * 4, none⟩)) := fun K => by rw [e, r_iaS _ _ _ _ _ _ _ (by omega) (by omega), hii]
    simp (disch := omega) only [r_lss, decide_eq_true hlt', r_condT, ia, r_ldCells (tlC_len t) hcell]
    refine r_box fun b16 w2 e16 s16 h16 k16 => ?_
    refine r_stAll (n := 4) (ty := 32) (by kernel_rfl) rfl (by intro u hu; simp [Value.cells, tlC] at hu; rcases hu with rfl | rfl | rfl | rfl <;> rfl) h16 rfl fun w3 c3 s3 h3 => ?_
    have k3 : Kp wr w3 := Kp.of_chg k16 c3 fun q e => by omega
    have g1 : w3.cell? ⟨b16, 1, none⟩ = some (.int .i64 (tE t)) := by rw [cell_row h3]; rfl
    -- the numbers
    have hN3 : IntsAt w0.heap.size w3 nv (noL l 64) := hN.kp (Kp.trans kr k3)
    obtain ⟨na, nc, en, _⟩ := hN3.len
    have nat : ∀ (x : World), IntsAt w0.heap.size x nv (noL l 64) → ∀ c : Nat, c < 64 → ∃ g cp, nv = .slice (some ⟨g, 0, none⟩) (noL l 64).length cp ∧ x.cell? ⟨g, c, none⟩ = some (.int .i64 (cnt l c : Nat)) := fun x hx c hc => by
      obtain ⟨g, cp, ev, _, hcl, _, _⟩ := IntsAt.put hx (q := c) (by rw [noL_len]; exact hc) 0
      rw [noL_at hc] at hcl
      exact ⟨g, cp, ev, hcl⟩
    obtain ⟨g, cp, env, hc1⟩ := nat w3 hN3 (tE t).toNat (by omega)
    have inv : ∀ (x : Int) (K : Value → Prop), 0 ≤ x → x < 64 → iaS 1 nv (.int .i64 x) K = K (.pointer (some ⟨g, x.toNat, none⟩)) := fun x K h0 h1 => by
      rw [env, r_iaS _ _ _ _ _ _ _ h0 (by rw [noL_len]; omega), Nat.mul_one, Nat.zero_add]
    simp only [r_fa, Nat.zero_add, r_ld g1]
    rw [inv _ _ hrng.1.1 hrng.1.2, r_ld hc1, st3 g1 (frozen_row h3)]
    have ch1 : Chg (fun q => q = b16) w3 (w3.setCell ⟨b16, 1, none⟩ (.int .i64 (cnt l (tE t).toNat : Nat))) := Chg.setCell _ _ rfl
    have h4 := setCell_block (o := 1) (v := .int .i64 (cnt l (tE t).toNat : Nat)) h3 rfl
    generalize w3.setCell ⟨b16, 1, none⟩ (.int .i64 (cnt l (tE t).toNat : Nat)) = w4 at *
    have k4 : Kp wr w4 := Kp.of_chg k3 ch1 fun q e => by omega
    have g3 : w4.cell? ⟨b16, 3, none⟩ = some (.int .i64 (tW t)) := by rw [cell_row h4]; rfl
    have hN4 : IntsAt w0.heap.size w4 nv (noL l 64) := hN.kp (Kp.trans kr k4)
    obtain ⟨g', cp', env', hc3⟩ := nat w4 hN4 (tW t).toNat (by omega)
    have hgg : g' = g := by
      rw [env'] at env
      injection env with h _ _
      injection h with h
      injection h
    subst hgg
    simp only [r_fa, Nat.zero_add, r_ld g3]
    rw [inv _ _ hrng.2.1 hrng.2.2, r_ld hc3, st3 g3 (frozen_row h4)]
    have ch2 : Chg (fun q => q = b16) w4 (w4.setCell ⟨b16, 3, none⟩ (.int .i64 (cnt l (tW t).toNat : Nat))) := Chg.setCell _ _ rfl
    have h5 := setCell_block (o := 3) (v := .int .i64 (cnt l (tW t).toNat : Nat)) h4 rfl
    generalize w4.setCell ⟨b16, 3, none⟩ (.int .i64 (cnt l (tW t).toNat : Nat)) = w5 at *
    have k5 : Kp wr w5 := Kp.of_chg k4 ch2 fun q e => by omega
    have h5' : w5.heap[b16]? = some (.cells (tlV (renS l t)).cells 32 (0, 0)) := by rw [h5]; rfl
    refine r51_4 (w0 := w) (hO.kp k5) h5' (by omega) (by omega) (Kp.trans kr k5) fun v w' ho _ _ kk => ?_
    refine ⟨⟨i + 1, by omega, by go_num, ?_, kk⟩, by simp only [intOf]; omega⟩
    rw [hstep]; exact ho
  have hlt' : ¬ (i : Int) < (l.length : Int) := by omega
  rw [List.take_of_length_le (by omega), prod_spec hok] at hO hol
  have hpl : (prodT l).length = (once l).length := by simp [prodT]
  obtain ⟨oa, oc, eo, _⟩ := hO.len
  have lno : ∀ K : Value → Prop, ln1 t14 K = K (.int .i64 (once l).length) := fun K => by rw [eo, ← hpl]; rfl
  have kk0 := Kp.trans hk kr
  by_cases q1 : (16 : Int) < ((once l).length : Int)
  · simp (disch := omega) only [r_ln, r_pick, r_pickT, r_pickF, r_condT, r_condF, r_gdTT, r_gdFF, r_gdTF, r_gdFT, r_gqTT, r_gqFF, r_gqTF, r_gqFT, r_not, r_lss, r_leq, r_gtr, r_geq, r_eql, r_neq, r_add, r_sub, r_min2, r_max2, r_min3, r_max3, r_fa, r_iaS, r_iaA, r_ex2a, r_ex2b, r_ex3a, r_ex3b, r_ex3c, r_nc, r_keepE, Nat.zero_add, Nat.add_zero, Nat.mul_one, Int.toNat_natCast, toNat_sub1, toNat_add1, decide_true, decide_false, Bool.not_true, Bool.not_false, if_true, if_false, Bool.false_eq_true, reduceCtorEq, hlt', lno, decide_eq_true q1]
    exact hfull _ kk0 (by rw [prodF, decide_eq_true (by omega), Bool.true_or])
  by_cases q2 : (8 : Int) < ((cnt l 64 : Nat) : Int)
  · simp (disch := omega) only [r_ln, r_pick, r_pickT, r_pickF, r_condT, r_condF, r_gdTT, r_gdFF, r_gdTF, r_gdFT, r_gqTT, r_gqFF, r_gqTF, r_gqFT, r_not, r_lss, r_leq, r_gtr, r_geq, r_eql, r_neq, r_add, r_sub, r_min2, r_max2, r_min3, r_max3, r_fa, r_iaS, r_iaA, r_ex2a, r_ex2b, r_ex3a, r_ex3b, r_ex3c, r_nc, r_keepE, Nat.zero_add, Nat.add_zero, Nat.mul_one, Int.toNat_natCast, toNat_sub1, toNat_add1, decide_true, decide_false, Bool.not_true, Bool.not_false, if_true, if_false, Bool.false_eq_true, reduceCtorEq, hlt', lno, q1, decide_eq_true q2]
    exact hfull _ kk0 (by rw [prodF, decide_eq_true (show 8 < cnt l 64 by omega), Bool.or_true])
  simp (disch := omega) only [r_ln, r_pick, r_pickT, r_pickF, r_condT, r_condF, r_gdTT, r_gdFF, r_gdTF, r_gdFT, r_gqTT, r_gqFF, r_gqTF, r_gqFT, r_not, r_lss, r_leq, r_gtr, r_geq, r_eql, r_neq, r_add, r_sub, r_min2, r_max2, r_min3, r_max3, r_fa, r_iaS, r_iaA, r_ex2a, r_ex2b, r_ex3a, r_ex3b, r_ex3c, r_nc, r_keepE, Nat.zero_add, Nat.add_zero, Nat.mul_one, Int.toNat_natCast, toNat_sub1, toNat_add1, decide_true, decide_false, Bool.not_true, Bool.not_false, if_true, if_false, Bool.false_eq_true, reduceCtorEq, hlt', lno, q1, q2]
  exact hK _ _ kk0 (by rw [prodF, decide_eq_false (by omega), decide_eq_false (by omega)]; rfl) (hO.down hk.size)

set_option maxRecDepth 100000 in
theorem r51_2 {w0 w : World} {t7 uv nv : Value} {l : List Tile} {K : Ending → World → Prop} (S : QSt w0 l uv w t7) (hN : IntsAt w0.heap.size w nv (noL l 0)) (hok : pairOk l) (hll : l.length ≤ 500)
    (hfull : ∀ w', Kp w0 w' → prodF l = true → K (.returned (.tuple #[nilS, .int .i64 8])) w')
    (hK : ∀ v w', Kp w0 w' → prodF l = false → TlAt w0.heap.size w' v (prodT l) → K (.returned (.tuple #[v, .int .i64 0])) w') : S51L2 t7 uv nv K w := by
  unfold S51L2
  refine ⟨fun t12 t13 wr => ∃ i : Nat, i ≤ 64 ∧ t13 = .int .i64 i ∧ t12 = .int .i64 (cnt l i : Nat) ∧ IntsAt w0.heap.size wr nv (noL l i) ∧ QSt w0 l uv wr t7, fun _ t13 _ => 64 - (intOf t13).toNat, ⟨0, by omega, rfl, rfl, hN, S⟩, ?_⟩
  rintro _ _ _ wr ⟨i, hi, rfl, rfl, hNi, Si⟩
  by_cases hlt : i < 64
  case neg =>
    have hlt' : ¬ (i : Int) < 64 := by omega
    have ei : i = 64 := by omega
    subst ei
    simp (disch := omega) only [r_ln, r_pick, r_pickT, r_pickF, r_condT, r_condF, r_gdTT, r_gdFF, r_gdTF, r_gdFT, r_gqTT, r_gqFF, r_gqTF, r_gqFT, r_not, r_lss, r_leq, r_gtr, r_geq, r_eql, r_neq, r_add, r_sub, r_min2, r_max2, r_min3, r_max3, r_fa, r_iaS, r_iaA, r_ex2a, r_ex2b, r_ex3a, r_ex3b, r_ex3c, r_nc, r_keepE, Nat.zero_add, Nat.add_zero, Nat.mul_one, Int.toNat_natCast, toNat_sub1, toNat_add1, decide_true, decide_false, Bool.not_true, Bool.not_false, if_true, if_false, Bool.false_eq_true, reduceCtorEq, hlt']
    exact r51_3 Si.tl hNi hok hll Si.kp hfull hK
  have hlt' : (i : Int) < 64 := by omega
  obtain ⟨g, cp, env, hbg, hcn, hfn, hsn⟩ := IntsAt.put hNi (q := i) (by rw [noL_len]; exact hlt) ((cnt l i : Nat) : Int)
  have hii : (i : Int).toNat = i := by omega
  have inv : ∀ K : Value → Prop, iaS 1 nv (.int .i64 i) K = K (.pointer (some ⟨g, i, none⟩)) := fun K => by
    rw [env, r_iaS _ _ _ _ _ _ _ (by omega) (by rw [noL_len]; omega), hii, Nat.mul_one, Nat.zero_add]
  simp (disch := omega) only [r_lss, decide_eq_true hlt', r_condT, inv]
  rw [st3 hcn hfn]
  have nown : nv.ownBlock = some g := by rw [env]; rfl
  have ch : Chg (fun q => q = g) wr (wr.setCell ⟨g, i, none⟩ (.int .i64 (cnt l i : Nat))) := Chg.setCell _ _ rfl
  rw [← noL_set hlt] at hsn
  generalize wr.setCell ⟨g, i, none⟩ (.int .i64 (cnt l i : Nat)) = w2 at *
  have S2 : QSt w0 l uv w2 t7 := ⟨Si.tl.chg ch fun q hq e => by subst e; exact rec_ne hNi Si.tl (by decide) q nown hq, Si.us.chg ch fun q hq e => by subst e; exact rec_ne hNi Si.us (by decide) q nown hq, Kp.of_chg Si.kp ch fun q e => by omega⟩
  have hul := usedL_len l
  obtain ⟨ub, uo, uc, eu, _, hcu⟩ := (S2.us.rd bC_len).at (i := i) (x := usedB l i) (by simp [usedL, hlt])
  have cu : w2.cell? ⟨ub, uo + i, none⟩ = some (.bool (usedB l i)) := by
    have := hcu 0 _ rfl
    simpa [bC] using this
  have iu : ∀ K : Value → Prop, iaS 1 uv (.int .i64 i) K = K (.pointer (some ⟨ub, uo + i, none⟩)) := fun K => by
    rw [eu, r_iaS _ _ _ _ _ _ _ (by omega) (by omega), hii, Nat.mul_one]
  rw [iu, r_ld cu]
  have hcs := cnt_succ l i
  have hcl := cnt_le l i
  refine r_join1 (fun v w' => v = .int .i64 (cnt l (i + 1) : Nat) ∧ w' = w2) ?_ fun k' hk' => ?_
  · rintro v w' ⟨rfl, rfl⟩
    rw [r_add _ _ (by omega) (by omega)]
    exact ⟨⟨i + 1, by omega, by go_num, rfl, hsn, S2⟩, by simp only [intOf]; omega⟩
  cases hb : usedB l i with
  | false =>
    simp only [r_condF]
    refine hk' _ _ ⟨?_, rfl⟩
    rw [hcs, hb]; simp
  | true =>
    simp (disch := omega) only [r_condT, r_add]
    refine hk' _ _ ⟨?_, rfl⟩
    rw [hcs, hb]; simp

set_option maxRecDepth 100000 in
theorem refprod_calls {av bv : Value} {a b : List Tile} (w : World) (ha : RdT w av a) (hb : RdT w bv b) : Calls Try.prog 51 #[av, bv] w fun e w' => Kp w w' ∧ ProdPost a b w.heap.size w' e := by
  have ha' := ha
  obtain ⟨aa, ac, eav, _⟩ := ha.len
  have lna : ∀ K : Value → Prop, ln1 av K = K (.int .i64 a.length) := fun K => by rw [eav]; rfl
  refine lift51 ?_
  unfold S51
  refine r_use fok35 (refset_calls w ha') rfl ?_
  rintro _ w1 ⟨rfl, k1⟩
  refine ⟨_, rfl, ?_⟩
  cases hsa : setB a with
  | false =>
    simp (disch := omega) only [r_ln, r_pick, r_pickT, r_pickF, r_condT, r_condF, r_gdTT, r_gdFF, r_gdTF, r_gdFT, r_gqTT, r_gqFF, r_gqTF, r_gqFT, r_not, r_lss, r_leq, r_gtr, r_geq, r_eql, r_neq, r_add, r_sub, r_min2, r_max2, r_min3, r_max3, r_fa, r_iaS, r_iaA, r_ex2a, r_ex2b, r_ex3a, r_ex3b, r_ex3c, r_nc, r_keepE, Nat.zero_add, Nat.add_zero, Nat.mul_one, Int.toNat_natCast, toNat_sub1, toNat_add1, decide_true, decide_false, Bool.not_true, Bool.not_false, if_true, if_false, Bool.false_eq_true, reduceCtorEq]
    exact ⟨k1, .inl ⟨by rw [hsa]; rfl, rfl⟩⟩
  | true =>
  simp (disch := omega) only [r_ln, r_pick, r_pickT, r_pickF, r_condT, r_condF, r_gdTT, r_gdFF, r_gdTF, r_gdFT, r_gqTT, r_gqFF, r_gqTF, r_gqFT, r_not, r_lss, r_leq, r_gtr, r_geq, r_eql, r_neq, r_add, r_sub, r_min2, r_max2, r_min3, r_max3, r_fa, r_iaS, r_iaA, r_ex2a, r_ex2b, r_ex3a, r_ex3b, r_ex3c, r_nc, r_keepE, Nat.zero_add, Nat.add_zero, Nat.mul_one, Int.toNat_natCast, toNat_sub1, toNat_add1, decide_true, decide_false, Bool.not_true, Bool.not_false, if_true, if_false, Bool.false_eq_true, reduceCtorEq]
  refine r_use fok35 (refset_calls w1 (hb.kp k1)) rfl ?_
  rintro _ w2 ⟨rfl, k2⟩
  refine ⟨_, rfl, ?_⟩
  have k02 := Kp.trans k1 k2
  cases hsb : setB b with
  | false =>
    simp (disch := omega) only [r_ln, r_pick, r_pickT, r_pickF, r_condT, r_condF, r_gdTT, r_gdFF, r_gdTF, r_gdFT, r_gqTT, r_gqFF, r_gqTF, r_gqFT, r_not, r_lss, r_leq, r_gtr, r_geq, r_eql, r_neq, r_add, r_sub, r_min2, r_max2, r_min3, r_max3, r_fa, r_iaS, r_iaA, r_ex2a, r_ex2b, r_ex3a, r_ex3b, r_ex3c, r_nc, r_keepE, Nat.zero_add, Nat.add_zero, Nat.mul_one, Int.toNat_natCast, toNat_sub1, toNat_add1, decide_true, decide_false, Bool.not_true, Bool.not_false, if_true, if_false, Bool.false_eq_true, reduceCtorEq]
    exact ⟨k02, .inl ⟨by rw [hsb, Bool.and_false], rfl⟩⟩
  | true =>
  have hia := isSet_of hsa
  have hib := isSet_of hsb
  simp (disch := omega) only [r_ln, r_pick, r_pickT, r_pickF, r_condT, r_condF, r_gdTT, r_gdFF, r_gdTF, r_gdFT, r_gqTT, r_gqFF, r_gqTF, r_gqFT, r_not, r_lss, r_leq, r_gtr, r_geq, r_eql, r_neq, r_add, r_sub, r_min2, r_max2, r_min3, r_max3, r_fa, r_iaS, r_iaA, r_ex2a, r_ex2b, r_ex3a, r_ex3b, r_ex3c, r_nc, r_keepE, Nat.zero_add, Nat.add_zero, Nat.mul_one, Int.toNat_natCast, toNat_sub1, toNat_add1, decide_true, decide_false, Bool.not_true, Bool.not_false, if_true, if_false, Bool.false_eq_true, reduceCtorEq]
  have e64 : (Value.int .i64 64) = .int .i64 ((64 : Nat) : Int) := rfl
  rw [e64]
  refine mk91 (by decide) fun uv w3 o3 k3 _ => ?_
  rw [← usedL_nil] at o3
  unfold S51L0
  have hal := hia.most
  have hbl := hib.most
  have hplen : ∀ i, (allP (a.take i) b).length ≤ 256 := fun i => by
    have h1 := allP_len (a := a.take i) (b := b)
    have h2 : (a.take i).length ≤ 16 := by rw [List.length_take]; omega
    have := Nat.mul_le_mul h2 hbl
    omega
  refine ⟨fun t7 t8 wr => ∃ i : Nat, i ≤ a.length ∧ t8 = .int .i64 i ∧ QSt w2 (allP (a.take i) b) uv wr t7, fun _ t8 _ => a.length - (intOf t8).toNat, ⟨0, by omega, rfl, ⟨RecAt.nil, o3, k3⟩⟩, ?_⟩
  rintro _ t7 _ wr ⟨i, hi, rfl, Si⟩
  rw [lna]
  by_cases hlt : i < a.length
  case pos =>
    have hlt' : (i : Int) < (a.length : Int) := by omega
    have hst : allP (a.take (i + 1)) b = allP (a.take i) b ++ under1 b a[i] := by
      unfold allP
      rw [take_succ' _ _ hlt, List.flatMap_append]; simp
    have hpre := hplen i
    simp (disch := omega) only [r_lss, decide_eq_true hlt', r_condT]
    refine r51_1 Si (ha'.kp k02) (List.getElem?_eq_getElem hlt) (hb.kp k02) (hia.cols _ (List.getElem_mem hlt)) hib.cols hbl (by omega) (by omega) fun v w' S' => ?_
    exact ⟨⟨i + 1, by omega, by go_num, by rw [hst]; exact S'⟩, by simp only [intOf]; omega⟩
  have hlt' : ¬ (i : Int) < (a.length : Int) := by omega
  have hpre := hplen i
  rw [List.take_of_length_le (by omega)] at Si hpre
  simp (disch := omega) only [r_lss, hlt', decide_false, r_condF]
  refine mk30' (by decide) fun nv w4 o4 k4 _ => ?_
  rw [← noL_zero (allP a b)] at o4
  refine r51_2 (Si.later k4) (o4.down Si.kp.size) (allP_ok hia.cols hib.cols) (by omega) (fun w' kk hf => ⟨Kp.trans k02 kk, .inr (.inl ⟨by rw [hsa, hsb]; rfl, hf, rfl⟩)⟩) fun v w' kk hf ho => ⟨Kp.trans k02 kk, .inr (.inr ⟨by rw [hsa, hsb]; rfl, hf, v, rfl, ho.down k02.size⟩)⟩

end Go.Proofs.Ytgalbokmgffhkaa
