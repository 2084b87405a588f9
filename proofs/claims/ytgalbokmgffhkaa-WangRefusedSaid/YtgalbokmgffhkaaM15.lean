/- Texts of my own, merged by program: J6 In J8. -/
import Derived.Test.YtgalbokmgffhkaaM14
import Derived.Test.YtgalbokmgffhkaaM10
import Derived.Test.YtgalbokmgffhkaaM09
import Derived.Test.YtgalbokmgffhkaaM11
set_option linter.all false
/- Contract: ways of the specification. -/
namespace Go.Proofs.Ytgalbokmgffhkaa
open Go.Lf Go.RowKit Go.Wg

def rowSoFar (full : List Int) (n s : Nat) (z : Int) : List Int := full.take s ++ List.replicate (n - s) z
theorem soFar_set {full : List Int} {n s : Nat} {z : Int} (hf : full.length = n) (hs : s < n) : (rowSoFar full n s z).set s (full.getD s 0) = rowSoFar full n (s + 1) z := by
  have h1 : (full.take s).length = s := by rw [List.length_take]; omega
  have h2 : n - s = (n - (s + 1)) + 1 := by omega
  unfold rowSoFar
  rw [List.set_append_right _ _ (by omega), h1, Nat.sub_self, h2, List.replicate_succ, List.set_cons_zero, take_succ' _ _ (by omega), List.append_assoc, getD_lt _ _ _ (by omega)]
  rfl
theorem soFar_len {full : List Int} {n s : Nat} {z : Int} (hf : full.length = n) (hs : s ≤ n) : (rowSoFar full n s z).length = n := by
  unfold rowSoFar
  rw [List.length_append, List.length_take, List.length_replicate]; omega
theorem soFar_all {full : List Int} {n : Nat} {z : Int} (hf : full.length = n) : rowSoFar full n n z = full := by
  unfold rowSoFar
  rw [List.take_of_length_le (by omega), Nat.sub_self]; simp

set_option maxRecDepth 100000 in
/-- One row of states. -/
theorem r75_2 {l : List Tile} {W H base p g : Nat} {sv lv v31 u0 : Value} {vs : List Value} {w0 w : World} {next : Value → World → Prop} (hset : IsSet l) (hW : 1 ≤ W ∧ W ≤ 4) (hH : 1 ≤ H ∧ H ≤ 4) (hall : allS l W ≤ 60000) (hr : RdT w0 sv l) (hL : RdInts w0 lv (lineL l)) (hk : Kp w0 w) (hg0 : w0.heap.size ≤ g)
    (hp : p < W * H) (S : WSt l W H base v31 vs (p + 1) g w) (hv : ∀ k, v31.ownBlock = some k → k ≠ g) (hup : vs[p]? = some u0) (hu0 : IntsAt base w u0 (List.replicate (allS l W) 0)) (hg : u0.ownBlock = some g)
    (hn : ∀ w', Kp w0 w' → WSt l W H base v31 vs (p + 1) g w' → IntsAt base w' u0 (wayL l W H p) → next (.int .i64 ((p : Int) - 1)) w') :
    S75L2 sv (.int .i64 W) (.int .i64 p) lv (.int .i64 (allS l W)) v31 next w := by
  have hfl := wayL_len l W H p
  unfold S75L2
  refine ⟨fun t14 wr => ∃ s : Nat, s ≤ allS l W ∧ t14 = .int .i64 s ∧ WSt l W H base v31 vs (p + 1) g wr ∧ IntsAt base wr u0 (rowSoFar (wayL l W H p) (allS l W) s 0) ∧ Kp w0 wr, fun t14 _ => allS l W - (intOf t14).toNat, ⟨0, by omega, rfl, S, by simpa [rowSoFar] using hu0, hk⟩, ?_⟩
  rintro _ _ wr ⟨s, hs, rfl, Sr, hur, kr⟩
  by_cases hlt : s < allS l W
  case neg =>
    have hlt' : ¬ (s : Int) < (allS l W : Int) := by omega
    have es : s = allS l W := by omega
    subst es
    rw [soFar_all hfl] at hur
    simp (disch := omega) only [r_ln, r_pick, r_pickT, r_pickF, r_condT, r_condF, r_gdTT, r_gdFF, r_gdTF, r_gdFT, r_gqTT, r_gqFF, r_gqTF, r_gqFT, r_not, r_lss, r_leq, r_gtr, r_geq, r_eql, r_neq, r_add, r_sub, r_min2, r_max2, r_min3, r_max3, r_fa, r_iaS, r_iaA, r_ex2a, r_ex2b, r_ex3a, r_ex3b, r_ex3c, r_nc, r_keepE, Nat.zero_add, Nat.add_zero, Nat.mul_one, Int.toNat_natCast, toNat_sub1, toNat_add1, decide_true, decide_false, Bool.not_true, Bool.not_false, if_true, if_false, Bool.false_eq_true, reduceCtorEq, hlt']
    rw [r_sub _ _ (by have : W * H ≤ 16 := Nat.mul_le_mul hW.2 hH.2; omega) (by have : W * H ≤ 16 := Nat.mul_le_mul hW.2 hH.2; omega)]
    exact hn wr kr Sr hur
  have hlt' : (s : Int) < (allS l W : Int) := by omega
  simp (disch := omega) only [r_ln, r_pick, r_pickT, r_pickF, r_condT, r_condF, r_gdTT, r_gdFF, r_gdTF, r_gdFT, r_gqTT, r_gqFF, r_gqTF, r_gqFT, r_not, r_lss, r_leq, r_gtr, r_geq, r_eql, r_neq, r_add, r_sub, r_min2, r_max2, r_min3, r_max3, r_fa, r_iaS, r_iaA, r_ex2a, r_ex2b, r_ex3a, r_ex3b, r_ex3c, r_nc, r_keepE, Nat.zero_add, Nat.add_zero, Nat.mul_one, Int.toNat_natCast, toNat_sub1, toNat_add1, decide_true, decide_false, Bool.not_true, Bool.not_false, if_true, if_false, Bool.false_eq_true, reduceCtorEq, decide_eq_true hlt']
  refine r75_3 hset hW hH hall hr hL kr hp hlt Sr hv hup hur (soFar_len hfl hs) hg fun w' _ S' hu' ⟨wm, km, cm⟩ => ?_
  rw [← wayL_at hlt, soFar_set hfl hlt] at hu'
  exact ⟨⟨s + 1, by omega, by go_num, S', hu', Kp.of_chg (Kp.trans kr km) cm fun q e => by omega⟩, by simp only [intOf]; omega⟩

set_option maxRecDepth 100000 in
/-- All rows, from the last one back. -/
theorem r75_1 {l : List Tile} {W H : Nat} {sv lv v31 : Value} {vs : List Value} {w0 w : World} {K : Ending → World → Prop} (hset : IsSet l) (hW : 1 ≤ W ∧ W ≤ 4) (hH : 1 ≤ H ∧ H ≤ 4) (hall : allS l W ≤ 60000) (hr : RdT w0 sv l) (hL : RdInts w0 lv (lineL l)) (hk : Kp w0 w)
    (hout : RecAt 30 1 vE w0.heap.size w v31 vs) (hlen : vs.length = W * H + 1) (hrow : ∀ u, vs[W * H]? = some u → IntsAt w0.heap.size w u (wayL l W H (W * H)))
    (hK : ∀ w', Kp w0 w' → IRows w0.heap.size w' v31 ((List.range (W * H + 1)).map (wayL l W H)) → K (.returned v31) w') :
    S75L1 sv (.int .i64 W) lv (.int .i64 (allS l W)) v31 (.int .i64 ((W * H : Nat) - 1 : Int)) K w := by
  have hWH : W * H ≤ 16 := Nat.mul_le_mul hW.2 hH.2
  unfold S75L1
  refine ⟨fun t13 wr => ∃ (m : Nat) (vs : List Value), m ≤ W * H ∧ t13 = .int .i64 ((m : Int) - 1) ∧ RecAt 30 1 vE w0.heap.size wr v31 vs ∧ vs.length = W * H + 1 ∧ (∀ q u, m ≤ q → vs[q]? = some u → IntsAt w0.heap.size wr u (wayL l W H q)) ∧ Kp w0 wr, fun t13 _ => (intOf t13 + 1).toNat, ⟨W * H, vs, Nat.le_refl _, rfl, hout, hlen, fun q u hq hu => ?_, hk⟩, ?_⟩
  · have hq' : q < vs.length := (List.getElem?_eq_some_iff.1 hu).1
    have : q = W * H := by omega
    subst this
    exact hrow u hu
  rintro _ _ wr ⟨m, vs, hm, rfl, ho, hl, hrows, kr⟩
  cases m with
  | zero =>
    have hneg : ¬ (0 : Int) ≤ ((0 : Nat) : Int) - 1 := by omega
    simp (disch := omega) only [r_geq, hneg, decide_false, r_condF]
    refine hK wr kr ⟨vs, ho, by simp [hl], fun i u r hu hri => ?_⟩
    rw [List.getElem?_map] at hri
    cases hrg : (List.range (W * H + 1))[i]? with
    | none => rw [hrg] at hri; cases hri
    | some q =>
      rw [hrg] at hri
      cases hri
      have : q = i := by
        have h1 := (List.getElem?_eq_some_iff.1 hrg).2
        simp at h1
        exact h1.symm
      subst this
      exact hrows q u (Nat.zero_le _) hu
  | succ p =>
    have hpos : (0 : Int) ≤ ((p + 1 : Nat) : Int) - 1 := by omega
    have ep : ((p + 1 : Nat) : Int) - 1 = (p : Int) := by omega
    simp (disch := omega) only [r_geq, decide_eq_true hpos, r_condT]
    rw [ep]
    refine mk30' (by omega) fun u w2 o2 k2 hgu => ?_
    obtain ⟨old, hold⟩ : ∃ x, vs[p]? = some x := ⟨_, List.getElem?_eq_getElem (by omega)⟩
    have ho2 := ho.kp k2
    obtain ⟨ua, uc, eu, _⟩ := o2.len
    obtain ⟨g, cap, e31, hbg, ⟨x0, cx⟩, fx, hset2⟩ := RecAt.set (j := 0) (p' := u) (u := u) vE_len ho2 hold (by omega) rfl
    simp only [Nat.mul_one, Nat.add_zero] at cx fx hset2
    have hpp : (p : Int).toNat = p := by omega
    have i31 : ∀ K : Value → Prop, iaS 1 v31 (.int .i64 p) K = K (.pointer (some ⟨g, p, none⟩)) := fun K => by
      rw [e31, hl, r_iaS _ _ _ _ _ _ _ (by omega) (by omega), hpp, Nat.mul_one, Nat.zero_add]
    rw [i31]
    have hst : ∀ K : World → Prop, stW Try.prog 30 (.pointer (some ⟨g, p, none⟩)) u w2 K = K (w2.setCell ⟨g, p, none⟩ u) := fun K => by rw [eu]; exact st30 cx fx
    rw [hst]
    have gown : v31.ownBlock = some g := by rw [e31]; rfl
    have gl := (ho.lt gown).2
    have hch : Chg (fun q => q = g) w2 (w2.setCell ⟨g, p, none⟩ u) := Chg.setCell _ _ rfl
    generalize w2.setCell ⟨g, p, none⟩ u = w3 at *
    have sz := kr.size
    have k3 : Kp w0 w3 := Kp.of_chg (Kp.trans kr k2) hch fun q e => by rw [e]; exact hbg
    have hS : WSt l W H w0.heap.size v31 (vs.set p u) (p + 1) wr.heap.size w3 := by
      refine ⟨hset2, by simp [hl], fun q u' hq hu' => ?_⟩
      rw [List.getElem?_set_ne (by omega)] at hu'
      have hI := hrows q u' hq hu'
      refine ⟨(hI.kp k2).chg hch fun k hk' e => ?_, fun k hk' e => ?_⟩
      · subst e
        exact rec_ne (hI.kp k2) ho2 (by decide) k hk' gown
      · have := (hI.lt hk').2
        omega
    refine r75_2 (w0 := w0) (base := w0.heap.size) hset hW hH hall hr hL k3 (g := wr.heap.size) sz (by omega) hS (fun k hk' e => by
      rw [gown] at hk'
      injection hk' with hk'
      omega) (u0 := u) (by rw [List.getElem?_set_self (by omega)]) ((o2.down sz).chg hch fun k hk' e => by rw [hgu] at hk'; injection hk' with hk'; omega) hgu fun w' kk S' hu' => ?_
    refine ⟨⟨p, vs.set p u, by omega, rfl, S'.out, S'.len, fun q u' hq hu'' => ?_, kk⟩, by simp only [intOf]; omega⟩
    by_cases hqp : q = p
    · subst hqp
      rw [List.getElem?_set_self (by omega)] at hu''
      cases hu''
      exact hu'
    · exact (S'.rows q u' (by omega) hu'').1

theorem way_last (l : List Tile) (W H : Nat) : wayL l W H (W * H) = List.replicate (allS l W) 1 := by
  refine List.ext_getElem (by simp [wayL]) fun s h1 h2 => ?_
  rw [List.getElem_replicate]
  simp only [wayL, List.getElem_map, List.getElem_range, Nat.sub_self]
  rfl

set_option maxRecDepth 100000 in
/-- The last row of states: one way each. -/
theorem r75_0 {l : List Tile} {W H g : Nat} {sv lv v31 u0 : Value} {vs : List Value} {w0 w : World} {K : Ending → World → Prop} (hset : IsSet l) (hW : 1 ≤ W ∧ W ≤ 4) (hH : 1 ≤ H ∧ H ≤ 4) (hall : allS l W ≤ 60000) (hr : RdT w0 sv l) (hL : RdInts w0 lv (lineL l)) (hk : Kp w0 w)
    (hout : RecAt 30 1 vE w0.heap.size w v31 vs) (hlen : vs.length = W * H + 1) (hup : vs[W * H]? = some u0) (hu0 : IntsAt w0.heap.size w u0 (List.replicate (allS l W) 0)) (hg : u0.ownBlock = some g)
    (hK : ∀ w', Kp w0 w' → IRows w0.heap.size w' v31 ((List.range (W * H + 1)).map (wayL l W H)) → K (.returned v31) w') :
    S75L0 sv (.int .i64 W) (.int .i64 H) lv (.int .i64 (allS l W)) v31 K w := by
  have hWH : W * H ≤ 16 := Nat.mul_le_mul hW.2 hH.2
  have hfl : (List.replicate (allS l W) (1 : Int)).length = allS l W := by simp
  unfold S75L0
  refine ⟨fun t12 wr => ∃ s : Nat, s ≤ allS l W ∧ t12 = .int .i64 s ∧ RecAt 30 1 vE w0.heap.size wr v31 vs ∧ IntsAt w0.heap.size wr u0 (rowSoFar (List.replicate (allS l W) 1) (allS l W) s 0) ∧ Kp w0 wr, fun t12 _ => allS l W - (intOf t12).toNat, ⟨0, by omega, rfl, hout, by simpa [rowSoFar] using hu0, hk⟩, ?_⟩
  rintro _ _ wr ⟨s, hs, rfl, ho, hur, kr⟩
  by_cases hlt : s < allS l W
  case neg =>
    have hlt' : ¬ (s : Int) < (allS l W : Int) := by omega
    have es : s = allS l W := by omega
    subst es
    rw [soFar_all hfl] at hur
    simp (disch := omega) only [r_lss, hlt', decide_false, r_condF]
    rw [r_mulN _ _ (by omega), r_sub _ _ (by omega) (by omega)]
    refine r75_1 hset hW hH hall hr hL kr ho hlen (fun u hu => ?_) hK
    rw [hup] at hu
    cases hu
    rw [way_last]; exact hur
  have hlt' : (s : Int) < (allS l W : Int) := by omega
  obtain ⟨ob, oo, oc, eo, _, hco⟩ := (ho.rd vE_len).at hup
  have co : wr.cell? ⟨ob, oo + W * H, none⟩ = some u0 := by
    have := hco 0 _ rfl
    simpa using this
  have hsl := soFar_len (z := 0) hfl hs
  obtain ⟨g', cap, eu, hbg, hcell, hfr, hput⟩ := IntsAt.put hur (q := s) (by omega) 1
  have hii : ((W * H : Nat) : Int).toNat = W * H := by omega
  have hss : (s : Int).toNat = s := by omega
  rw [eu] at co
  have gown : u0.ownBlock = some g' := by rw [eu]; rfl
  simp (disch := omega) only [r_lss, decide_eq_true hlt', r_condT]
  rw [r_mulN _ _ (by omega)]
  have i31 : ∀ K : Value → Prop, iaS 1 v31 (.int .i64 (W * H : Nat)) K = K (.pointer (some ⟨ob, oo + W * H, none⟩)) := fun K => by
    rw [eo, r_iaS _ _ _ _ _ _ _ (by omega) (by omega), hii, Nat.mul_one]
  rw [i31, r_ld co]
  simp (disch := omega) only [r_iaS, hss, Nat.mul_one, Nat.zero_add]
  rw [st3 hcell hfr]
  have hch : Chg (fun q => q = g') wr (wr.setCell ⟨g', s, none⟩ (.int .i64 1)) := Chg.setCell _ _ rfl
  rw [r_add _ _ (by omega) (by omega)]
  have h1 : (List.replicate (allS l W) (1 : Int)).getD s 0 = 1 := by rw [getD_lt _ _ _ (by simpa using hlt), List.getElem_replicate]
  have hsf := soFar_set (z := 0) hfl hlt
  rw [h1] at hsf
  rw [hsf] at hput
  refine ⟨⟨s + 1, by omega, by go_num, ho.chg hch fun k hk' e => ?_, hput, Kp.of_chg kr hch fun q e => by rw [e]; exact hbg⟩, by simp only [intOf]; omega⟩
  subst e
  exact rec_ne hur ho (by decide) k gown hk'

set_option maxRecDepth 100000 in
theorem ways_calls {sv : Value} {l : List Tile} {W H : Nat} (w : World) (hr : RdT w sv l) (hset : IsSet l) (hW : 1 ≤ W ∧ W ≤ 4) (hH : 1 ≤ H ∧ H ≤ 4) (hall : allS l W ≤ 60000) :
    Calls Try.prog 75 #[sv, .int .i64 W, .int .i64 H] w fun e w' => ∃ v, e = .returned v ∧ Kp w w' ∧ IRows w.heap.size w' v ((List.range (W * H + 1)).map (wayL l W H)) := by
  have hWH : W * H ≤ 16 := Nat.mul_le_mul hW.2 hH.2
  have hlm := hset.most
  have hn := line_pos hset
  refine lift75 ?_
  unfold S75
  refine r_use fok70 (lines_calls w hr (by omega)) rfl ?_
  rintro _ w1 ⟨lv, rfl, o1, k1⟩
  refine ⟨_, rfl, ?_⟩
  obtain ⟨la, lc, elv, _⟩ := o1.len
  have hL : RdInts w1 lv (lineL l) := Rd.ints (o1.rd iC_len) (by have := line_len l; omega)
  have lnl : ∀ K : Value → Prop, ln1 lv K = K (.int .i64 (lineL l).length) := fun K => by rw [elv]; rfl
  rw [lnl]
  have hpw : (lineL l).length ^ W ≤ 60000 := by unfold allS at hall; omega
  refine r_use fok69 (power_calls (n := (lineL l).length) (k := W) w1 (by omega) hn (by omega)) rfl ?_
  rintro _ _ ⟨rfl, rfl⟩
  refine ⟨_, rfl, ?_⟩
  rw [r_mul8 _ (by omega), r_mulN _ _ (by omega), r_add _ _ (by omega) (by omega)]
  have e1 : ((W * H : Nat) : Int) + 1 = ((W * H + 1 : Nat) : Int) := by omega
  rw [e1]
  refine mk23 (by omega) fun v31 w2 o2 k2 => ?_
  rw [r_mulN _ _ (by omega)]
  change mkW Try.prog 30 (.int .i64 (allS l W : Nat)) (.int .i64 (allS l W : Nat)) w2 _
  refine mk30' (by omega) fun u w3 o3 k3 hgu => ?_
  have hlen : (List.replicate (W * H + 1) nilS).length = W * H + 1 := by simp
  obtain ⟨old, hold⟩ : ∃ x, (List.replicate (W * H + 1) nilS)[W * H]? = some x := ⟨_, List.getElem?_eq_getElem (by simp)⟩
  have o23 := o2.kp k3
  obtain ⟨ua, uc, eu, _⟩ := o3.len
  obtain ⟨g, cap, e31, hbg, ⟨x0, cx⟩, fx, hset2⟩ := RecAt.set (j := 0) (p' := u) (u := u) vE_len o23 hold (by omega) rfl
  simp only [Nat.mul_one, Nat.add_zero] at cx fx hset2
  have hii : ((W * H : Nat) : Int).toNat = W * H := by omega
  have i31 : ∀ K : Value → Prop, iaS 1 v31 (.int .i64 (W * H : Nat)) K = K (.pointer (some ⟨g, W * H, none⟩)) := fun K => by
    rw [e31, hlen, r_iaS _ _ _ _ _ _ _ (by omega) (by omega), hii, Nat.mul_one, Nat.zero_add]
  rw [i31]
  have hst : ∀ K : World → Prop, stW Try.prog 30 (.pointer (some ⟨g, W * H, none⟩)) u w3 K = K (w3.setCell ⟨g, W * H, none⟩ u) := fun K => by rw [eu]; exact st30 cx fx
  rw [hst]
  have gown : v31.ownBlock = some g := by rw [e31]; rfl
  have gl := (o2.lt gown).2
  have hch : Chg (fun q => q = g) w3 (w3.setCell ⟨g, W * H, none⟩ u) := Chg.setCell _ _ rfl
  generalize w3.setCell ⟨g, W * H, none⟩ u = w4 at *
  have k13 := Kp.trans k2 k3
  have k4 : Kp w1 w4 := Kp.of_chg k13 hch fun q e => by rw [e]; exact hbg
  refine r75_0 (w0 := w1) hset hW hH hall (hr.kp k1) hL k4 hset2 (by simp) (by rw [List.getElem?_set_self (by simp)]) ((o3.down k2.size).chg hch fun k hk' e => by rw [hgu] at hk'; injection hk' with hk'; omega) hgu fun w' kk ho => ⟨_, rfl, Kp.trans k1 kk, ?_⟩
  exact ho.down k1.size

end Go.Proofs.Ytgalbokmgffhkaa

/- No lists. -/
namespace Go.Proofs.Ytgalbokmgffhkaa
open Go.Lf Go.RowKit Go.Wg

theorem IRows.nil {base : Nat} {w : World} : IRows base w nilS [] := ⟨[], RecAt.nil, rfl, by simp⟩

end Go.Proofs.Ytgalbokmgffhkaa

/- Contract: Fill of the program. -/
namespace Go.Proofs.Ytgalbokmgffhkaa
open Go.Lf Go.RowKit Go.Wg

theorem r_slAat {b o : Nat} {K : Value → Prop} : ∀ (n : Nat), n ≤ 4 → slA 4 1 (.pointer (some ⟨b, o, none⟩)) none (some (.int .i64 (n : Int))) K = K (.slice (some ⟨b, o, none⟩) n 4)
  | 0, _ => by kernel_rfl
  | 1, _ => by kernel_rfl
  | 2, _ => by kernel_rfl
  | 3, _ => by kernel_rfl
  | 4, _ => by kernel_rfl
  | n + 5, h => by omega

set_option maxRecDepth 100000 in
/-- slices.IndexFunc at lines. -/
theorem indexL_calls {v fv : Value} {L : List Line} (p : Line → Bool) (w : World) (hr : RdL w v L) (hl : L.length ≤ 1000000)
    (hc : ∀ x ∈ L, ∀ (w' : World) (K : Value → World → Prop), Kp w w' → (∀ w'', Kp w' w'' → K (.bool (p x)) w'') → callW Try.prog fv [lnV x] w' K) :
    Calls Try.prog 77 #[v, fv] w fun e w' => Kp w w' ∧ ((L.find? p = none ∧ e = .returned (.int .i64 (-1))) ∨ ∃ (i : Nat) (x : Line), L[i]? = some x ∧ L.find? p = some x ∧ e = .returned (.int .i64 i)) := by
  have hr' := hr
  obtain ⟨a, cap, rfl, hcap⟩ := hr.len
  refine lift77 ?_
  unfold S77
  simp only [r_ln]
  unfold S77L0
  refine ⟨fun t8 wr => ∃ i : Nat, i ≤ L.length ∧ t8 = .int .i64 i ∧ (∀ x ∈ L.take i, p x = false) ∧ Kp w wr, fun t8 _ => L.length - (intOf t8).toNat, ⟨0, by omega, rfl, by simp, Kp.refl _⟩, ?_⟩
  rintro _ _ wr ⟨i, hi, rfl, hn, kr⟩
  by_cases hlt : i < L.length
  case neg =>
    have hlt' : ¬ (i : Int) < (L.length : Int) := by omega
    rw [List.take_of_length_le (by omega)] at hn
    simp (disch := omega) only [r_ln, r_pick, r_pickT, r_pickF, r_condT, r_condF, r_gdTT, r_gdFF, r_gdTF, r_gdFT, r_gqTT, r_gqFF, r_gqTF, r_gqFT, r_not, r_lss, r_leq, r_gtr, r_geq, r_eql, r_neq, r_add, r_sub, r_min2, r_max2, r_min3, r_max3, r_fa, r_iaS, r_iaA, r_ex2a, r_ex2b, r_ex3a, r_ex3b, r_ex3c, r_nc, r_keepE, Nat.zero_add, Nat.add_zero, Nat.mul_one, Int.toNat_natCast, toNat_sub1, toNat_add1, decide_true, decide_false, Bool.not_true, Bool.not_false, if_true, if_false, Bool.false_eq_true, reduceCtorEq, hlt']
    refine ⟨kr, .inl ⟨?_, by first | rfl | trivial⟩⟩
    rw [List.find?_eq_none]
    intro x hx h
    rw [hn x hx] at h
    cases h
  have hlt' : (i : Int) < (L.length : Int) := by omega
  obtain ⟨x, hx⟩ : ∃ x, L[i]? = some x := ⟨_, List.getElem?_eq_getElem hlt⟩
  obtain ⟨b, off, _, e, _, hld⟩ := RdL.line (hr'.kp kr) hx
  cases e
  have hii : (i : Int).toNat = i := by omega
  simp (disch := omega) only [r_ln, r_pick, r_pickT, r_pickF, r_condT, r_condF, r_gdTT, r_gdFF, r_gdTF, r_gdFT, r_gqTT, r_gqFF, r_gqTF, r_gqFT, r_not, r_lss, r_leq, r_gtr, r_geq, r_eql, r_neq, r_add, r_sub, r_min2, r_max2, r_min3, r_max3, r_fa, r_iaS, r_iaA, r_ex2a, r_ex2b, r_ex3a, r_ex3b, r_ex3c, r_nc, r_keepE, Nat.zero_add, Nat.add_zero, Nat.mul_one, Int.toNat_natCast, toNat_sub1, toNat_add1, decide_true, decide_false, Bool.not_true, Bool.not_false, if_true, if_false, Bool.false_eq_true, reduceCtorEq, decide_eq_true hlt', hii, hld]
  refine hc x (List.mem_of_getElem? hx) wr _ kr fun w2 k2 => ?_
  have hxe : L[i] = x := (List.getElem?_eq_some_iff.1 hx).2
  cases hp : p x with
  | true =>
    simp (disch := omega) only [r_ln, r_pick, r_pickT, r_pickF, r_condT, r_condF, r_gdTT, r_gdFF, r_gdTF, r_gdFT, r_gqTT, r_gqFF, r_gqTF, r_gqFT, r_not, r_lss, r_leq, r_gtr, r_geq, r_eql, r_neq, r_add, r_sub, r_min2, r_max2, r_min3, r_max3, r_fa, r_iaS, r_iaA, r_ex2a, r_ex2b, r_ex3a, r_ex3b, r_ex3c, r_nc, r_keepE, Nat.zero_add, Nat.add_zero, Nat.mul_one, Int.toNat_natCast, toNat_sub1, toNat_add1, decide_true, decide_false, Bool.not_true, Bool.not_false, if_true, if_false, Bool.false_eq_true, reduceCtorEq]
    refine ⟨Kp.trans kr k2, .inr ⟨i, x, hx, ?_, by first | rfl | trivial⟩⟩
    have hsplit : L = L.take i ++ x :: L.drop (i + 1) := by
      rw [← hxe, ← List.drop_eq_getElem_cons hlt, List.take_append_drop]
    rw [hsplit, List.find?_append, List.find?_cons, hp]
    have : (L.take i).find? p = none := by
      rw [List.find?_eq_none]
      intro y hy h
      rw [hn y hy] at h
      cases h
    rw [this]; rfl
  | false =>
    simp (disch := omega) only [r_ln, r_pick, r_pickT, r_pickF, r_condT, r_condF, r_gdTT, r_gdFF, r_gdTF, r_gdFT, r_gqTT, r_gqFF, r_gqTF, r_gqFT, r_not, r_lss, r_leq, r_gtr, r_geq, r_eql, r_neq, r_add, r_sub, r_min2, r_max2, r_min3, r_max3, r_fa, r_iaS, r_iaA, r_ex2a, r_ex2b, r_ex3a, r_ex3b, r_ex3c, r_nc, r_keepE, Nat.zero_add, Nat.add_zero, Nat.mul_one, Int.toNat_natCast, toNat_sub1, toNat_add1, decide_true, decide_false, Bool.not_true, Bool.not_false, if_true, if_false, Bool.false_eq_true, reduceCtorEq]
    refine ⟨⟨i + 1, by omega, by go_num, fun y hy => ?_, Kp.trans kr k2⟩, by simp only [intOf]; omega⟩
    rw [List.take_add_one, hx] at hy
    rcases List.mem_append.1 hy with h | h
    · exact hn y h
    · simp at h
      rw [h]; exact hp

/-- What a row must be, by its record. -/
def lineP (L : List Line) (k : Nat) (ab : Int) (x : Line) : Bool := (decide (ab < 0) || decide (x.2.1 = ab)) && decide (0 < Gk L k x.2.2.1)

set_option maxRecDepth 100000 in
/-- The test of Fill. -/
theorem fillT_call {L : List Line} {N H k b10 b12 b13 base : Nat} {ab : Int} {av : Value} (w : World) (hL : LnOk N L) (hA : BRows base w av ((List.range (H + 1)).map (alvL L N))) (hk : k ≤ H) (hH : H ≤ 100) (h10 : w.heap[b10]? = some (.cells #[av] 88 (0, 0))) (h12 : w.heap[b12]? = some (.cells #[.int .i64 ab] 3 (0, 0))) (h13 : w.heap[b13]? = some (.cells #[.int .i64 k] 3 (0, 0)))
    (x : Line) (hx : x ∈ L) (w' : World) (K : Value → World → Prop) (hkp : Kp w w') (hK : ∀ w'', Kp w' w'' → K (.bool (lineP L k ab x)) w'') :
    callW Try.prog (.func (.func 78) #[] #[.pointer (some ⟨b12, 0, none⟩), .pointer (some ⟨b10, 0, none⟩), .pointer (some ⟨b13, 0, none⟩)]) [lnV x] w' K := by
  have hc : Calls Try.prog 78 #[lnV x, .pointer (some ⟨b12, 0, none⟩), .pointer (some ⟨b10, 0, none⟩), .pointer (some ⟨b13, 0, none⟩)] w' fun r w'' => r = .returned (.bool (lineP L k ab x)) ∧ Kp w' w'' := by
    refine lift78 ?_
    unfold S78
    refine r_box fun b4 w1 e4 s4 h4 k4 => ?_
    refine r_drew fun w2 k2 _ => ?_
    have k42 := Kp.trans k4 k2
    have h4' := block_below h4 k2
    have kw := Kp.trans hkp k42
    have cab : w2.cell? ⟨b12, 0, none⟩ = some (.int .i64 ab) := by rw [cell_row (block_below h12 kw)]; rfl
    have ca : w2.cell? ⟨b10, 0, none⟩ = some av := by rw [cell_row (block_below h10 kw)]; rfl
    have ck : w2.cell? ⟨b13, 0, none⟩ = some (.int .i64 k) := by rw [cell_row (block_below h13 kw)]; rfl
    have c4 : w2.cell? ⟨b4, 4, none⟩ = some (.int .i64 x.2.1) := by rw [cell_row h4']; rfl
    have c5 : w2.cell? ⟨b4, 5, none⟩ = some (.int .i64 x.2.2.1) := by rw [cell_row h4']; rfl
    have hxl := hL x hx
    obtain ⟨ob, oo, oc, u, eo, ocell, hu⟩ := (hA.kp kw).row (i := k) (r := alvL L N k) (by rw [List.getElem?_map, List.getElem?_range (by omega)]; rfl)
    have hal := alvL_len L N k
    obtain ⟨g, cap, eu, _, gc, _, _⟩ := BoolsAt.put hu (q := x.2.2.1.toNat) (by omega) true
    rw [alv_pos hL k x.2.2.1.toNat (by omega), show ((x.2.2.1.toNat : Nat) : Int) = x.2.2.1 by omega] at gc
    have hrl : ((List.range (H + 1)).map (alvL L N)).length = H + 1 := by simp
    rw [hrl] at eo
    have hkk : (k : Int).toNat = k := by omega
    have fin : ∀ b : Bool, b = lineP L k ab x → Ending.returned (.bool b) = .returned (.bool (lineP L k ab x)) ∧ Kp w' w2 := fun b hb => ⟨by rw [hb], k42⟩
    rw [eo] at ca
    rw [eu] at ocell
    by_cases g1 : ab < 0
    · simp (disch := omega) only [r_ln, r_pick, r_pickT, r_pickF, r_condT, r_condF, r_gdTT, r_gdFF, r_gdTF, r_gdFT, r_gqTT, r_gqFF, r_gqTF, r_gqFT, r_not, r_lss, r_leq, r_gtr, r_geq, r_eql, r_neq, r_add, r_sub, r_min2, r_max2, r_min3, r_max3, r_fa, r_iaS, r_iaA, r_ex2a, r_ex2b, r_ex3a, r_ex3b, r_ex3c, r_nc, r_keepE, Nat.zero_add, Nat.add_zero, Nat.mul_one, Int.toNat_natCast, toNat_sub1, toNat_add1, decide_true, decide_false, Bool.not_true, Bool.not_false, if_true, if_false, Bool.false_eq_true, reduceCtorEq, r_ld cab, decide_eq_true g1, r_gqU, r_ld ca, r_ld ck, hkk, r_ld ocell, r_ld c5, r_ld gc]
      exact fin _ (by rw [lineP, decide_eq_true g1, Bool.true_or, Bool.true_and])
    by_cases g2 : x.2.1 = ab
    · simp (disch := omega) only [r_ln, r_pick, r_pickT, r_pickF, r_condT, r_condF, r_gdTT, r_gdFF, r_gdTF, r_gdFT, r_gqTT, r_gqFF, r_gqTF, r_gqFT, r_not, r_lss, r_leq, r_gtr, r_geq, r_eql, r_neq, r_add, r_sub, r_min2, r_max2, r_min3, r_max3, r_fa, r_iaS, r_iaA, r_ex2a, r_ex2b, r_ex3a, r_ex3b, r_ex3c, r_nc, r_keepE, Nat.zero_add, Nat.add_zero, Nat.mul_one, Int.toNat_natCast, toNat_sub1, toNat_add1, decide_true, decide_false, Bool.not_true, Bool.not_false, if_true, if_false, Bool.false_eq_true, reduceCtorEq, r_ld cab, g1, r_ld c4, decide_eq_true g2, r_gqU, r_ld ca, r_ld ck, hkk, r_ld ocell, r_ld c5, r_ld gc]
      exact fin _ (by rw [lineP, decide_eq_true g2, Bool.or_true, Bool.true_and])
    · simp (disch := omega) only [r_ln, r_pick, r_pickT, r_pickF, r_condT, r_condF, r_gdTT, r_gdFF, r_gdTF, r_gdFT, r_gqTT, r_gqFF, r_gqTF, r_gqFT, r_not, r_lss, r_leq, r_gtr, r_geq, r_eql, r_neq, r_add, r_sub, r_min2, r_max2, r_min3, r_max3, r_fa, r_iaS, r_iaA, r_ex2a, r_ex2b, r_ex3a, r_ex3b, r_ex3c, r_nc, r_keepE, Nat.zero_add, Nat.add_zero, Nat.mul_one, Int.toNat_natCast, toNat_sub1, toNat_add1, decide_true, decide_false, Bool.not_true, Bool.not_false, if_true, if_false, Bool.false_eq_true, reduceCtorEq, r_ld cab, g1, r_ld c4, g2, r_gqU]
      exact fin _ (by rw [lineP, decide_eq_false g1, decide_eq_false g2]; rfl)
  refine r_use fok78 hc rfl ?_
  rintro _ w2 ⟨rfl, k2⟩
  exact ⟨_, rfl, hK w2 k2⟩

def ptrN (w : World) (v : Value) : Nat := match v with
  | .pointer (some a) => match w.cell? a with
    | some u => (intOf u + 1).toNat
    | none => 0
  | _ => 0
/-- What Fill returns. -/
def FillPost (l : List Tile) (a b : Int) (base : Nat) (w' : World) (e : Ending) : Prop :=
  (ordErr l a b ≠ 0 ∧ e = .returned (.tuple #[nilS, .int .i64 2])) ∨
  (ordErr l a b = 0 ∧ fillM l a.toNat b.toNat (-1) = none ∧ e = .returned (.tuple #[nilS, .int .i64 10])) ∨
  (ordErr l a b = 0 ∧ ∃ v B, e = .returned (.tuple #[v, .int .i64 0]) ∧ fillM l a.toNat b.toNat (-1) = some B ∧ IRows base w' v (B.map intsR))

theorem find_lines {l : List Tile} {w k : Nat} {ab : Int} : (linesL l w).find? (lineP (linesL l w) k ab) = ((rowsL l w).find? (rowP l w k ab)).map (lineOf l) := by
  unfold linesL
  rw [List.find?_map]
  congr 1
  refine find_congr fun r hr => ?_
  show lineP _ k ab (lineOf l r) = _
  unfold lineP rowP
  rw [Bk_eq]
  rfl

theorem pad_ints {l : List Tile} {r : List Nat} {w : World} {lb o cap : Nat} {W : Nat} (hr : r.length = W) (hW : W ≤ 4) (hc : ∀ j u, (lnC (lineOf l r))[j]? = some u → w.cell? ⟨lb, o + j, none⟩ = some u) : RdInts w (.slice (some ⟨lb, o, none⟩) W 4) (intsR r) := by
  have hl : (intsR r).length = W := by simp [intsR, hr]
  refine ⟨some ⟨lb, o, none⟩, 4, by rw [hl], ⟨by omega, by omega⟩, fun _ => ⟨lb, o, rfl, fun i hi => ?_⟩⟩
  have hi4 : i < 4 := by omega
  have hir : i < r.length := by omega
  have e : (intsR r).getD i 0 = (pad4 r).getD i 0 := by
    rw [pad4_at r hi4, getD_lt _ _ _ (by omega)]
    simp [intsR, List.getD_eq_getElem?_getD, hir]
  rw [e]
  match i, hi4 with
  | 0, _ => exact hc 0 _ rfl
  | 1, _ => exact hc 1 _ rfl
  | 2, _ => exact hc 2 _ rfl
  | 3, _ => exact hc 3 _ rfl

set_option maxRecDepth 100000 in
set_option maxHeartbeats 1000000 in
theorem r27_0 {l : List Tile} {W H b10 b12 b13 base : Nat} {av lv : Value} {w0 w : World} {K : Ending → World → Prop} (hs : IsSet l) (hW : 1 ≤ W ∧ W ≤ 4) (hH : 1 ≤ H ∧ H ≤ 4)
    (hA : BRows base w0 av ((List.range (H + 1)).map (alvL (linesL l W) (8 ^ W)))) (hLv : RdL w0 lv (linesL l W)) (h10 : w.heap[b10]? = some (.cells #[av] 88 (0, 0))) (h12 : w.heap[b12]? = some (.cells #[.int .i64 (-1)] 3 (0, 0))) (h13 : w.heap[b13]? = some (.cells #[.int .i64 ((H : Int) - 1)] 3 (0, 0))) (hb12 : w0.heap.size ≤ b12) (hne : b12 ≠ b13) (hk : Kp w0 w)
    (hnone : ∀ w', Kp w0 w' → fillM l W H (-1) = none → K (.returned (.tuple #[nilS, .int .i64 10])) w')
    (hK : ∀ v B w', Kp w0 w' → fillM l W H (-1) = some B → IRows w0.heap.size w' v (B.map intsR) → K (.returned (.tuple #[v, .int .i64 0])) w') :
    S27L0 (.int .i64 W) (.pointer (some ⟨b10, 0, none⟩)) (.pointer (some ⟨b12, 0, none⟩)) (.pointer (some ⟨b13, 0, none⟩)) lv K w := by
  have hLo := lines_ok hs hW.2
  have hll := lines_len hs hW.2
  have sb10 := block_lt h10
  have sb12 := block_lt h12
  have sk := hk.size
  unfold S27L0
  refine ⟨fun t11 t13 wr => ∃ (i : Nat) (ab : Int) (D : List (List Nat)) (b13 : Nat), i ≤ H ∧ t13 = .pointer (some ⟨b13, 0, none⟩) ∧ wr.heap[b13]? = some (.cells #[.int .i64 ((H : Int) - i - 1)] 3 (0, 0)) ∧ b12 ≠ b13 ∧ wr.heap[b12]? = some (.cells #[.int .i64 ab] 3 (0, 0)) ∧ wr.heap[b10]? = some (.cells #[av] 88 (0, 0)) ∧
      IRows w.heap.size wr t11 (D.map intsR) ∧ D.length = i ∧ (fillM l W H (-1) = (fillM l W (H - i) ab).map (D ++ ·)) ∧ Kp w0 wr ∧ w.heap.size ≤ wr.heap.size, fun _ t13 wr => ptrN wr t13,
    ⟨0, -1, [], b13, by omega, rfl, by simpa using h13, hne, h12, h10, IRows.nil, rfl, by simp, hk, Nat.le_refl _⟩, ?_⟩
  rintro _ t11 _ wr ⟨i, ab, D, c13, hi, rfl, g13, gne, g12, g10, hO, hD, hF, kr, sz⟩
  have ck : wr.cell? ⟨c13, 0, none⟩ = some (.int .i64 ((H : Int) - i - 1)) := by rw [cell_row g13]; rfl
  by_cases hlt : i < H
  case neg =>
    have ei : i = H := by omega
    subst ei
    have hneg : ¬ (0 : Int) ≤ (i : Int) - i - 1 := by omega
    simp (disch := omega) only [r_ln, r_pick, r_pickT, r_pickF, r_condT, r_condF, r_gdTT, r_gdFF, r_gdTF, r_gdFT, r_gqTT, r_gqFF, r_gqTF, r_gqFT, r_not, r_lss, r_leq, r_gtr, r_geq, r_eql, r_neq, r_add, r_sub, r_min2, r_max2, r_min3, r_max3, r_fa, r_iaS, r_iaA, r_ex2a, r_ex2b, r_ex3a, r_ex3b, r_ex3c, r_nc, r_keepE, Nat.zero_add, Nat.add_zero, Nat.mul_one, Int.toNat_natCast, toNat_sub1, toNat_add1, decide_true, decide_false, Bool.not_true, Bool.not_false, if_true, if_false, Bool.false_eq_true, reduceCtorEq, r_ld ck, hneg]
    rw [Nat.sub_self] at hF
    refine hK _ D wr kr (by rw [hF]; simp [fillM]) ?_
    exact hO.down sk
  obtain ⟨k, hkH⟩ : ∃ k, H - i = k + 1 := ⟨H - i - 1, by omega⟩
  have ekk : (H : Int) - i - 1 = (k : Int) := by omega
  rw [ekk] at g13 ck
  rw [hkH, fillM] at hF
  have hpos : (0 : Int) ≤ (k : Int) := by omega
  simp (disch := omega) only [r_ln, r_pick, r_pickT, r_pickF, r_condT, r_condF, r_gdTT, r_gdFF, r_gdTF, r_gdFT, r_gqTT, r_gqFF, r_gqTF, r_gqFT, r_not, r_lss, r_leq, r_gtr, r_geq, r_eql, r_neq, r_add, r_sub, r_min2, r_max2, r_min3, r_max3, r_fa, r_iaS, r_iaA, r_ex2a, r_ex2b, r_ex3a, r_ex3b, r_ex3c, r_nc, r_keepE, Nat.zero_add, Nat.add_zero, Nat.mul_one, Int.toNat_natCast, toNat_sub1, toNat_add1, decide_true, decide_false, Bool.not_true, Bool.not_false, if_true, if_false, Bool.false_eq_true, reduceCtorEq, r_ld ck, decide_eq_true hpos]
  refine r_use fok77 (indexL_calls (lineP (linesL l W) k ab) wr (hLv.kp kr) (by omega) fun x hx w' K' hkk hK' => fillT_call (k := k) wr hLo (hA.kp kr) (by omega) (by omega) g10 g12 g13 x hx w' K' hkk hK') rfl ?_
  rintro e1 w2 ⟨k2, hpost⟩
  rw [find_lines] at hpost
  have kr2 := Kp.trans kr k2
  rcases hpost with ⟨hn, rfl⟩ | ⟨n, x, hx, hfx, rfl⟩
  · refine ⟨_, rfl, ?_⟩
    have hneg : decide ((-1 : Int) < 0) = true := by decide
    have hfn : (rowsL l W).find? (rowP l W k ab) = none := by
      cases hq : (rowsL l W).find? (rowP l W k ab) with
      | none => rfl
      | some r => rw [hq] at hn; cases hn
    rw [hfn] at hF
    simp (disch := omega) only [r_ln, r_pick, r_pickT, r_pickF, r_condT, r_condF, r_gdTT, r_gdFF, r_gdTF, r_gdFT, r_gqTT, r_gqFF, r_gqTF, r_gqFT, r_not, r_lss, r_leq, r_gtr, r_geq, r_eql, r_neq, r_add, r_sub, r_min2, r_max2, r_min3, r_max3, r_fa, r_iaS, r_iaA, r_ex2a, r_ex2b, r_ex3a, r_ex3b, r_ex3c, r_nc, r_keepE, Nat.zero_add, Nat.add_zero, Nat.mul_one, Int.toNat_natCast, toNat_sub1, toNat_add1, decide_true, decide_false, Bool.not_true, Bool.not_false, if_true, if_false, Bool.false_eq_true, reduceCtorEq, hneg]
    exact hnone _ kr2 hF
  refine ⟨_, rfl, ?_⟩
  obtain ⟨r, hfr, rfl⟩ : ∃ r, (rowsL l W).find? (rowP l W k ab) = some r ∧ x = lineOf l r := by
    cases hq : (rowsL l W).find? (rowP l W k ab) with
    | none => rw [hq] at hfx; cases hfx
    | some r => rw [hq] at hfx; cases hfx; exact ⟨r, rfl, rfl⟩
  rw [hfr] at hF
  dsimp only at hF
  have hrm := List.mem_of_find?_eq_some hfr
  obtain ⟨hrl, hnl, hsl, _⟩ := row_line hs hrm
  have hnlt : n < (linesL l W).length := (List.getElem?_eq_some_iff.1 hx).1
  have hneg : ¬ ((n : Int) < 0) := by omega
  simp (disch := omega) only [r_ln, r_pick, r_pickT, r_pickF, r_condT, r_condF, r_gdTT, r_gdFF, r_gdTF, r_gdFT, r_gqTT, r_gqFF, r_gqTF, r_gqFT, r_not, r_lss, r_leq, r_gtr, r_geq, r_eql, r_neq, r_add, r_sub, r_min2, r_max2, r_min3, r_max3, r_fa, r_iaS, r_iaA, r_ex2a, r_ex2b, r_ex3a, r_ex3b, r_ex3c, r_nc, r_keepE, Nat.zero_add, Nat.add_zero, Nat.mul_one, Int.toNat_natCast, toNat_sub1, toNat_add1, decide_true, decide_false, Bool.not_true, Bool.not_false, if_true, if_false, Bool.false_eq_true, reduceCtorEq, hneg]
  refine r_drew fun w3 k3 _ => ?_
  have kr3 := Kp.trans kr2 k3
  have k23 := Kp.trans k2 k3
  obtain ⟨lb, lo, lc, el, _, hcell⟩ := (hLv.kp kr3).at hx
  have hnn : (n : Int).toNat = n := by omega
  have ia : ∀ K : Value → Prop, iaS 7 lv (.int .i64 n) K = K (.pointer (some ⟨lb, lo + n * 7, none⟩)) := fun K => by rw [el, r_iaS _ _ _ _ _ _ _ (by omega) (by omega), hnn]
  have hlb : lb < w0.heap.size := by
    have := hLv.block (fun x => by rw [lnC_len]; omega) (b := lb) (off := lo) (n := (linesL l W).length) (cap := lc) el (by omega)
    exact this
  have sl : ∀ K : Value → Prop, slA 4 1 (.pointer (some ⟨lb, lo + n * 7, none⟩)) none (some (.int .i64 (W : Nat))) K = K (.slice (some ⟨lb, lo + n * 7, none⟩) W 4) := fun K => r_slAat W hW.2
  have hO3 := hO.kp k23
  have c5 : w3.cell? ⟨lb, lo + n * 7 + 5, none⟩ = some (.int .i64 (code (souths l r))) := hcell 5 _ rfl
  have hXlb : ¬ (fun q => w.heap.size ≤ q) lb := fun h => by have : w.heap.size ≤ lb := h; omega
  refine ⟨fun q => w.heap.size ≤ q, ?_⟩
  simp only [r_tx, ia, r_fa, Nat.add_zero, sl, r_txl (X := fun q => w.heap.size ≤ q) c5 hXlb]
  have hri := pad_ints (l := l) (W := W) (cap := lc) hrl hW.2 hcell
  have hil : (intsR r).length ≤ 1000000 := by simp [intsR]; omega
  have hli : (intsR r).length = W := by simp [intsR, hrl]
  refine r_use fok79 (clone_calls w3 hri hil) rfl ?_
  rintro _ w4 ⟨v4, rfl, o4, k4⟩
  obtain ⟨a4, c4, e4, _⟩ := o4.len
  refine ⟨_, rfl, BX.of_below k4, ?_⟩
  have hb34 : w.heap.size ≤ w3.heap.size := by have := k23.size; omega
  rw [e4]
  dsimp only
  rw [bs23]
  refine ⟨BX.of_below (below_alloc _), ?_⟩
  have k5 := below_alloc (w := w4) (.cells #[.slice a4 (intsR r).length c4] 30)
  have n5 := heap_alloc_new w4 (.cells #[.slice a4 (intsR r).length c4] 30)
  have o4' : IntsAt w3.heap.size w4 (.slice a4 (intsR r).length c4) (intsR r) := by rw [← e4]; exact o4
  generalize w4.alloc (.cells #[.slice a4 (intsR r).length c4] 30) = w5 at *
  have s34 := k4.size
  have s45 := k5.size
  have hO5 := (hO3.kp k4).kp k5
  refine r_pushRow2 hO5 ((o4'.kp k5).down hb34) (by rw [List.length_map]; omega) (by omega) n5 fun v6 w6 o6 ch6 _ => ?_
  obtain ⟨vs, p1, _, _⟩ := hO5
  have chX : Chg (fun q => w.heap.size ≤ q) w5 w6 := ch6.mono fun q _ hq => (p1.lt hq).1
  refine ⟨BX.of_chg chX, ?_⟩
  have k35 := Kp.trans k4 k5
  have k06 : Kp w0 w6 := Kp.of_chg (Kp.trans kr3 k35) chX fun q hq => by omega
  have krx : Kp wr w5 := Kp.trans k23 k35
  have s56 := chX.size
  -- above
  have g12' : w6.heap[b12]? = some (.cells #[.int .i64 ab] 3 (0, 0)) := chX.at (block_below g12 krx) (by omega)
  have g10' : w6.heap[b10]? = some (.cells #[av] 88 (0, 0)) := chX.at (block_below g10 krx) (by omega)
  have sb13 := block_lt g13
  have g13' : w6.heap[c13]? = some (.cells #[.int .i64 (k : Int)] 3 (0, 0)) := by
    have h5 := block_below g13 krx
    refine ch6.at h5 fun hq => ?_
    obtain ⟨cur, hc⟩ := own_type p1 hq
    rw [h5] at hc
    injection hc with hc
    injection hc with _ hc _
    exact absurd hc (by decide)
  have cb12 : w6.cell? ⟨b12, 0, none⟩ = some (.int .i64 ab) := by rw [cell_row g12']; rfl
  simp only [r_tx]
  rw [st3 cb12 (frozen_row g12')]
  have ch7 : Chg (fun q => q = b12) w6 (w6.setCell ⟨b12, 0, none⟩ (.int .i64 (code (souths l r)))) := Chg.setCell _ _ rfl
  have g12n := setCell_block (o := 0) (v := .int .i64 (code (souths l r))) g12' rfl
  generalize w6.setCell ⟨b12, 0, none⟩ (.int .i64 (code (souths l r))) = w7 at *
  have g13n := ch7.at g13' (fun e => gne e.symm)
  have s67 := ch7.size
  have g10n : w7.heap[b10]? = some (.cells #[av] 88 (0, 0)) := ch7.at g10' fun e => by
    subst e
    rw [g10'] at g12'
    injection g12' with h
    injection h with _ h _
    exact absurd h (by decide)
  have o7 : IRows w.heap.size w7 v6 (D.map intsR ++ [intsR r]) := o6.chg ch7 fun q hq _ e => by omega
  have k07 : Kp w0 w7 := Kp.of_chg k06 ch7 fun q hq => by omega
  have ck7 : w7.cell? ⟨c13, 0, none⟩ = some (.int .i64 (k : Int)) := by rw [cell_row g13n]; rfl
  rw [r_ld ck7]
  refine r_box fun b8 w8 e8 s8 h8 k8 => ?_
  refine r_stAll (n := 1) (ty := 3) (cs := #[.int .i64 0]) (by kernel_rfl) rfl (by intro u hu; simp [Value.cells] at hu; subst hu; rfl) h8 rfl fun w9 c9 s9 h9 => ?_
  have k79 : Kp w7 w9 := Kp.of_chg k8 c9 fun q hq => by omega
  have h9' : w9.heap[b8]? = some (.cells #[.int .i64 (k : Int)] 3 (0, 0)) := h9
  have ck9 : w9.cell? ⟨b8, 0, none⟩ = some (.int .i64 (k : Int)) := by rw [cell_row h9']; rfl
  rw [r_ld ck9, r_sub _ _ (by omega) (by omega), st3 ck9 (frozen_row h9')]
  have ch10 : Chg (fun q => q = b8) w9 (w9.setCell ⟨b8, 0, none⟩ (.int .i64 ((k : Int) - 1))) := Chg.setCell _ _ rfl
  have g8 := setCell_block (o := 0) (v := .int .i64 ((k : Int) - 1)) h9' rfl
  generalize w9.setCell ⟨b8, 0, none⟩ (.int .i64 ((k : Int) - 1)) = w10 at *
  have k710 : Kp w7 w10 := Kp.of_chg k79 ch10 fun q hq => by omega
  have g8' : w10.heap[b8]? = some (.cells #[.int .i64 ((k : Int) - 1)] 3 (0, 0)) := g8
  have sz7 := k710.size
  refine ⟨⟨i + 1, code (souths l r), D ++ [r], b8, by omega, rfl, ?_, by omega, ?_, block_below g10n k710, ?_, by simp [hD], ?_, Kp.trans k07 k710, by omega⟩, ?_⟩
  · rw [g8']
    have : (H : Int) - ((i + 1 : Nat) : Int) - 1 = (k : Int) - 1 := by omega
    rw [this]
  · have := block_below g12n k710
    rw [this]; rfl
  · rw [List.map_append]; exact o7.kp k710
  · rw [hF, show H - (i + 1) = k by omega]
    cases fillM l W k (code (souths l r)) <;> simp
  · have e1 : ptrN w10 (.pointer (some ⟨b8, 0, none⟩)) = k := by
      have : w10.cell? ⟨b8, 0, none⟩ = some (.int .i64 ((k : Int) - 1)) := by rw [cell_row g8']; rfl
      simp only [ptrN, this, intOf]; omega
    have e2 : ptrN wr (.pointer (some ⟨c13, 0, none⟩)) = k + 1 := by
      simp only [ptrN, ck, intOf]; omega
    rw [e1, e2]; omega

set_option maxRecDepth 100000 in
theorem fill_calls {v : Value} {l : List Tile} (a b : Int) (w : World) (hr : RdT w v l) : Calls Try.prog 27 #[v, .int .i64 a, .int .i64 b] w fun e w' => Kp w w' ∧ FillPost l a b w.heap.size w' e := by
  refine lift27 ?_
  unfold S27
  refine r_use fok53 (board_calls a b w hr) rfl ?_
  rintro _ w1 ⟨rfl, k1⟩
  refine ⟨_, rfl, ?_⟩
  have h20 : ¬ ((2 : Int) = 0) := by decide
  rcases ordErr_cases l a b with he | he
  rotate_left
  · rw [he]
    simp (disch := omega) only [r_ln, r_pick, r_pickT, r_pickF, r_condT, r_condF, r_gdTT, r_gdFF, r_gdTF, r_gdFT, r_gqTT, r_gqFF, r_gqTF, r_gqFT, r_not, r_lss, r_leq, r_gtr, r_geq, r_eql, r_neq, r_add, r_sub, r_min2, r_max2, r_min3, r_max3, r_fa, r_iaS, r_iaA, r_ex2a, r_ex2b, r_ex3a, r_ex3b, r_ex3c, r_nc, r_keepE, Nat.zero_add, Nat.add_zero, Nat.mul_one, Int.toNat_natCast, toNat_sub1, toNat_add1, decide_true, decide_false, Bool.not_true, Bool.not_false, if_true, if_false, Bool.false_eq_true, reduceCtorEq, h20]
    exact ⟨k1, .inl ⟨by omega, rfl⟩⟩
  obtain ⟨hs, W, H, rfl, rfl, hW, hH⟩ := ord_ok he
  rw [he]
  simp (disch := omega) only [r_ln, r_pick, r_pickT, r_pickF, r_condT, r_condF, r_gdTT, r_gdFF, r_gdTF, r_gdFT, r_gqTT, r_gqFF, r_gqTF, r_gqFT, r_not, r_lss, r_leq, r_gtr, r_geq, r_eql, r_neq, r_add, r_sub, r_min2, r_max2, r_min3, r_max3, r_fa, r_iaS, r_iaA, r_ex2a, r_ex2b, r_ex3a, r_ex3b, r_ex3c, r_nc, r_keepE, Nat.zero_add, Nat.add_zero, Nat.mul_one, Int.toNat_natCast, toNat_sub1, toNat_add1, decide_true, decide_false, Bool.not_true, Bool.not_false, if_true, if_false, Bool.false_eq_true, reduceCtorEq, decide_eq_true (rfl : (0 : Int) = 0)]
  refine r_use fok59 (rows_calls hs hW w1 (hr.kp k1)) rfl ?_
  rintro _ w2 ⟨lv, rfl, k2, hL⟩
  refine ⟨_, rfl, ?_⟩
  change LnAt _ _ _ (linesL l W) at hL
  have hlo := lines_ok hs hW.2
  have hll := lines_len hs hW.2
  have hrdL := hL.rd lnC_len
  refine r_use fok76 (alive_calls (h := H) w2 hW (by omega) hrdL hlo (by omega)) rfl ?_
  rintro _ w3 ⟨av, rfl, k3, hA⟩
  refine ⟨_, rfl, ?_⟩
  have k03 := Kp.trans k1 (Kp.trans k2 k3)
  obtain ⟨aa, acap, ea, hac⟩ := hA.len
  have hav1 : av.cells.size = 1 ∧ (∀ u ∈ av.cells.toList, u.oneCell' = true) ∧ av.cells = #[av] := by
    rw [ea]
    exact ⟨rfl, fun u hu => by simp [Value.cells] at hu; subst hu; rfl, rfl⟩
  refine r_box fun b10 w4 e10 s10 h10 k4 => ?_
  refine r_stAll (n := 1) (ty := 88) (cs := #[nilS]) (by kernel_rfl) hav1.1 hav1.2.1 h10 rfl fun w5 c5 s5 h105 => ?_
  rw [hav1.2.2] at h105
  have k35 : Kp w3 w5 := Kp.of_chg k4 c5 fun i e => by omega
  refine r_box fun b12 w6 e12 s12 h12 k6 => ?_
  refine r_stAll (n := 1) (ty := 3) (cs := #[.int .i64 0]) (by kernel_rfl) rfl (by intro u hu; simp [Value.cells] at hu; subst hu; rfl) h12 rfl fun w7 c7 s7 h127 => ?_
  have k57 : Kp w5 w7 := Kp.of_chg k6 c7 fun i e => by omega
  have h127' : w7.heap[b12]? = some (.cells #[.int .i64 (-1)] 3 (0, 0)) := h127
  refine r_box fun b13 w8 e13 s13 h13 k8 => ?_
  refine r_stAll (n := 1) (ty := 3) (cs := #[.int .i64 0]) (by kernel_rfl) rfl (by intro u hu; simp [Value.cells] at hu; subst hu; rfl) h13 rfl fun w9 c9 s9 h139 => ?_
  have k79 : Kp w7 w9 := Kp.of_chg k8 c9 fun i e => by omega
  have h139' : w9.heap[b13]? = some (.cells #[.int .i64 ((H : Int) - 1)] 3 (0, 0)) := h139
  have sz5 := k35.size
  have hpost : ∀ {e : Ending} {w' : World}, Kp w3 w' → FillPost l W H w.heap.size w' e → Kp w w' ∧ FillPost l W H w.heap.size w' e := fun h1 h2 => ⟨Kp.trans k03 h1, h2⟩
  refine r27_0 (w0 := w3) hs hW hH hA (hrdL.kp k3) (block_below (block_below h105 k57) k79) (block_below h127' k79) h139' (by omega) (by omega) (Kp.trans k35 (Kp.trans k57 k79)) (fun w' kk hn => hpost kk (.inr (.inl ⟨he, by simpa using hn, rfl⟩))) fun v' B w' kk hB ho => hpost kk (.inr (.inr ⟨he, v', B, rfl, by simpa using hB, ho.down k03.size⟩))

end Go.Proofs.Ytgalbokmgffhkaa
