/- Texts of my own, merged by program: J6 J9 Sh. -/
import Derived.Test.YtgalbokmgffhkaaM11
import Derived.Test.YtgalbokmgffhkaaM16
import Derived.Test.YtgalbokmgffhkaaM14
import Derived.Test.YtgalbokmgffhkaaM03
set_option linter.all false
/- Contract: ways of the specification. -/
namespace Go.Proofs.Ytgalbokmgffhkaa
open Go.Lf Go.RowKit Go.Wg

def rowSoFar (full : List Int) (n s : Nat) (z : Int) : List Int := full.take s ++ List.replicate (n - s) z
theorem soFar_set {full : List Int} {n s : Nat} {z : Int} (hf : full.length = n) (hs : s < n) : (rowSoFar full n s z).set s (full.getD s 0) = rowSoFar full n (s + 1) z := by
  have h1 : (full.take s).length = s := by rw [List.length_take]; omega
  have h2 : n - s = (n - (s + 1)) + 1 := by omega
  unfold rowSoFar
  rw [List.set_append_right _ _ (by omega), h1, Nat.sub_self, h2, List.replicate_succ, List.set_cons_zero, take_succ' _ _ (by omega), List.append_assoc, getD_lt _ _ _ (by omega)]
  rfl
theorem soFar_len {full : List Int} {n s : Nat} {z : Int} (hf : full.length = n) (hs : s ≤ n) : (rowSoFar full n s z).length = n := by
  unfold rowSoFar
  rw [List.length_append, List.length_take, List.length_replicate]; omega
theorem soFar_all {full : List Int} {n : Nat} {z : Int} (hf : full.length = n) : rowSoFar full n n z = full := by
  unfold rowSoFar
  rw [List.take_of_length_le (by omega), Nat.sub_self]; simp

set_option maxRecDepth 100000 in
/-- One row of states. -/
theorem r75_2 {l : List Tile} {W H base p g : Nat} {sv lv v31 u0 : Value} {vs : List Value} {w0 w : World} {next : Value → World → Prop} (hset : IsSet l) (hW : 1 ≤ W ∧ W ≤ 4) (hH : 1 ≤ H ∧ H ≤ 4) (hall : allS l W ≤ 60000) (hr : RdT w0 sv l) (hL : RdInts w0 lv (lineL l)) (hk : Kp w0 w) (hg0 : w0.heap.size ≤ g)
    (hp : p < W * H) (S : WSt l W H base v31 vs (p + 1) g w) (hv : ∀ k, v31.ownBlock = some k → k ≠ g) (hup : vs[p]? = some u0) (hu0 : IntsAt base w u0 (List.replicate (allS l W) 0)) (hg : u0.ownBlock = some g)
    (hn : ∀ w', Kp w0 w' → WSt l W H base v31 vs (p + 1) g w' → IntsAt base w' u0 (wayL l W H p) → next (.int .i64 ((p : Int) - 1)) w') :
    S75L2 sv (.int .i64 W) (.int .i64 p) lv (.int .i64 (allS l W)) v31 next w := by
  have hfl := wayL_len l W H p
  unfold S75L2
  refine ⟨fun t14 wr => ∃ s : Nat, s ≤ allS l W ∧ t14 = .int .i64 s ∧ WSt l W H base v31 vs (p + 1) g wr ∧ IntsAt base wr u0 (rowSoFar (wayL l W H p) (allS l W) s 0) ∧ Kp w0 wr, fun t14 _ => allS l W - (intOf t14).toNat, ⟨0, by omega, rfl, S, by simpa [rowSoFar] using hu0, hk⟩, ?_⟩
  rintro _ _ wr ⟨s, hs, rfl, Sr, hur, kr⟩
  by_cases hlt : s < allS l W
  case neg =>
    have hlt' : ¬ (s : Int) < (allS l W : Int) := by omega
    have es : s = allS l W := by omega
    subst es
    rw [soFar_all hfl] at hur
    simp (disch := omega) only [r_ln, r_pick, r_pickT, r_pickF, r_condT, r_condF, r_gdTT, r_gdFF, r_gdTF, r_gdFT, r_gqTT, r_gqFF, r_gqTF, r_gqFT, r_not, r_lss, r_leq, r_gtr, r_geq, r_eql, r_neq, r_add, r_sub, r_min2, r_max2, r_min3, r_max3, r_fa, r_iaS, r_iaA, r_ex2a, r_ex2b, r_ex3a, r_ex3b, r_ex3c, r_nc, r_keepE, Nat.zero_add, Nat.add_zero, Nat.mul_one, Int.toNat_natCast, toNat_sub1, toNat_add1, decide_true, decide_false, Bool.not_true, Bool.not_false, if_true, if_false, Bool.false_eq_true, reduceCtorEq, hlt']
    rw [r_sub _ _ (by have : W * H ≤ 16 := Nat.mul_le_mul hW.2 hH.2; omega) (by have : W * H ≤ 16 := Nat.mul_le_mul hW.2 hH.2; omega)]
    exact hn wr kr Sr hur
  have hlt' : (s : Int) < (allS l W : Int) := by omega
  simp (disch := omega) only [r_ln, r_pick, r_pickT, r_pickF, r_condT, r_condF, r_gdTT, r_gdFF, r_gdTF, r_gdFT, r_gqTT, r_gqFF, r_gqTF, r_gqFT, r_not, r_lss, r_leq, r_gtr, r_geq, r_eql, r_neq, r_add, r_sub, r_min2, r_max2, r_min3, r_max3, r_fa, r_iaS, r_iaA, r_ex2a, r_ex2b, r_ex3a, r_ex3b, r_ex3c, r_nc, r_keepE, Nat.zero_add, Nat.add_zero, Nat.mul_one, Int.toNat_natCast, toNat_sub1, toNat_add1, decide_true, decide_false, Bool.not_true, Bool.not_false, if_true, if_false, Bool.false_eq_true, reduceCtorEq, decide_eq_true hlt']
  refine r75_3 hset hW hH hall hr hL kr hp hlt Sr hv hup hur (soFar_len hfl hs) hg fun w' _ S' hu' ⟨wm, km, cm⟩ => ?_
  rw [← wayL_at hlt, soFar_set hfl hlt] at hu'
  exact ⟨⟨s + 1, by omega, by go_num, S', hu', Kp.of_chg (Kp.trans kr km) cm fun q e => by omega⟩, by simp only [intOf]; omega⟩

set_option maxRecDepth 100000 in
/-- All rows, from the last one back. -/
theorem r75_1 {l : List Tile} {W H : Nat} {sv lv v31 : Value} {vs : List Value} {w0 w : World} {K : Ending → World → Prop} (hset : IsSet l) (hW : 1 ≤ W ∧ W ≤ 4) (hH : 1 ≤ H ∧ H ≤ 4) (hall : allS l W ≤ 60000) (hr : RdT w0 sv l) (hL : RdInts w0 lv (lineL l)) (hk : Kp w0 w)
    (hout : RecAt 30 1 vE w0.heap.size w v31 vs) (hlen : vs.length = W * H + 1) (hrow : ∀ u, vs[W * H]? = some u → IntsAt w0.heap.size w u (wayL l W H (W * H)))
    (hK : ∀ w', Kp w0 w' → IRows w0.heap.size w' v31 ((List.range (W * H + 1)).map (wayL l W H)) → K (.returned v31) w') :
    S75L1 sv (.int .i64 W) lv (.int .i64 (allS l W)) v31 (.int .i64 ((W * H : Nat) - 1 : Int)) K w := by
  have hWH : W * H ≤ 16 := Nat.mul_le_mul hW.2 hH.2
  unfold S75L1
  refine ⟨fun t13 wr => ∃ (m : Nat) (vs : List Value), m ≤ W * H ∧ t13 = .int .i64 ((m : Int) - 1) ∧ RecAt 30 1 vE w0.heap.size wr v31 vs ∧ vs.length = W * H + 1 ∧ (∀ q u, m ≤ q → vs[q]? = some u → IntsAt w0.heap.size wr u (wayL l W H q)) ∧ Kp w0 wr, fun t13 _ => (intOf t13 + 1).toNat, ⟨W * H, vs, Nat.le_refl _, rfl, hout, hlen, fun q u hq hu => ?_, hk⟩, ?_⟩
  · have hq' : q < vs.length := (List.getElem?_eq_some_iff.1 hu).1
    have : q = W * H := by omega
    subst this
    exact hrow u hu
  rintro _ _ wr ⟨m, vs, hm, rfl, ho, hl, hrows, kr⟩
  cases m with
  | zero =>
    have hneg : ¬ (0 : Int) ≤ ((0 : Nat) : Int) - 1 := by omega
    simp (disch := omega) only [r_geq, hneg, decide_false, r_condF]
    refine hK wr kr ⟨vs, ho, by simp [hl], fun i u r hu hri => ?_⟩
    rw [List.getElem?_map] at hri
    cases hrg : (List.range (W * H + 1))[i]? with
    | none => rw [hrg] at hri; cases hri
    | some q =>
      rw [hrg] at hri
      cases hri
      have : q = i := by
        have h1 := (List.getElem?_eq_some_iff.1 hrg).2
        simp at h1
        exact h1.symm
      subst this
      exact hrows q u (Nat.zero_le _) hu
  | succ p =>
    have hpos : (0 : Int) ≤ ((p + 1 : Nat) : Int) - 1 := by omega
    have ep : ((p + 1 : Nat) : Int) - 1 = (p : Int) := by omega
    simp (disch := omega) only [r_geq, decide_eq_true hpos, r_condT]
    rw [ep]
    refine mk30' (by omega) fun u w2 o2 k2 hgu => ?_
    obtain ⟨old, hold⟩ : ∃ x, vs[p]? = some x := ⟨_, List.getElem?_eq_getElem (by omega)⟩
    have ho2 := ho.kp k2
    obtain ⟨ua, uc, eu, _⟩ := o2.len
    obtain ⟨g, cap, e31, hbg, ⟨x0, cx⟩, fx, hset2⟩ := RecAt.set (j := 0) (p' := u) (u := u) vE_len ho2 hold (by omega) rfl
    simp only [Nat.mul_one, Nat.add_zero] at cx fx hset2
    have hpp : (p : Int).toNat = p := by omega
    have i31 : ∀ K : Value → Prop, iaS 1 v31 (.int .i64 p) K = K (.pointer (some ⟨g, p, none⟩)) := fun K => by
      rw [e31, hl, r_iaS _ _ _ _ _ _ _ (by omega) (by omega), hpp, Nat.mul_one, Nat.zero_add]
    rw [i31]
    have hst : ∀ K : World → Prop, stW Try.prog 30 (.pointer (some ⟨g, p, none⟩)) u w2 K = K (w2.setCell ⟨g, p, none⟩ u) := fun K => by rw [eu]; exact st30 cx fx
    rw [hst]
    have gown : v31.ownBlock = some g := by rw [e31]; rfl
    have gl := (ho.lt gown).2
    have hch : Chg (fun q => q = g) w2 (w2.setCell ⟨g, p, none⟩ u) := Chg.setCell _ _ rfl
    generalize w2.setCell ⟨g, p, none⟩ u = w3 at *
    have sz := kr.size
    have k3 : Kp w0 w3 := Kp.of_chg (Kp.trans kr k2) hch fun q e => by rw [e]; exact hbg
    have hS : WSt l W H w0.heap.size v31 (vs.set p u) (p + 1) wr.heap.size w3 := by
      refine ⟨hset2, by simp [hl], fun q u' hq hu' => ?_⟩
      rw [List.getElem?_set_ne (by omega)] at hu'
      have hI := hrows q u' hq hu'
      refine ⟨(hI.kp k2).chg hch fun k hk' e => ?_, fun k hk' e => ?_⟩
      · subst e
        exact rec_ne (hI.kp k2) ho2 (by decide) k hk' gown
      · have := (hI.lt hk').2
        omega
    refine r75_2 (w0 := w0) (base := w0.heap.size) hset hW hH hall hr hL k3 (g := wr.heap.size) sz (by omega) hS (fun k hk' e => by
      rw [gown] at hk'
      injection hk' with hk'
      omega) (u0 := u) (by rw [List.getElem?_set_self (by omega)]) ((o2.down sz).chg hch fun k hk' e => by rw [hgu] at hk'; injection hk' with hk'; omega) hgu fun w' kk S' hu' => ?_
    refine ⟨⟨p, vs.set p u, by omega, rfl, S'.out, S'.len, fun q u' hq hu'' => ?_, kk⟩, by simp only [intOf]; omega⟩
    by_cases hqp : q = p
    · subst hqp
      rw [List.getElem?_set_self (by omega)] at hu''
      cases hu''
      exact hu'
    · exact (S'.rows q u' (by omega) hu'').1

theorem way_last (l : List Tile) (W H : Nat) : wayL l W H (W * H) = List.replicate (allS l W) 1 := by
  refine List.ext_getElem (by simp [wayL]) fun s h1 h2 => ?_
  rw [List.getElem_replicate]
  simp only [wayL, List.getElem_map, List.getElem_range, Nat.sub_self]
  rfl

set_option maxRecDepth 100000 in
/-- The last row of states: one way each. -/
theorem r75_0 {l : List Tile} {W H g : Nat} {sv lv v31 u0 : Value} {vs : List Value} {w0 w : World} {K : Ending → World → Prop} (hset : IsSet l) (hW : 1 ≤ W ∧ W ≤ 4) (hH : 1 ≤ H ∧ H ≤ 4) (hall : allS l W ≤ 60000) (hr : RdT w0 sv l) (hL : RdInts w0 lv (lineL l)) (hk : Kp w0 w)
    (hout : RecAt 30 1 vE w0.heap.size w v31 vs) (hlen : vs.length = W * H + 1) (hup : vs[W * H]? = some u0) (hu0 : IntsAt w0.heap.size w u0 (List.replicate (allS l W) 0)) (hg : u0.ownBlock = some g)
    (hK : ∀ w', Kp w0 w' → IRows w0.heap.size w' v31 ((List.range (W * H + 1)).map (wayL l W H)) → K (.returned v31) w') :
    S75L0 sv (.int .i64 W) (.int .i64 H) lv (.int .i64 (allS l W)) v31 K w := by
  have hWH : W * H ≤ 16 := Nat.mul_le_mul hW.2 hH.2
  have hfl : (List.replicate (allS l W) (1 : Int)).length = allS l W := by simp
  unfold S75L0
  refine ⟨fun t12 wr => ∃ s : Nat, s ≤ allS l W ∧ t12 = .int .i64 s ∧ RecAt 30 1 vE w0.heap.size wr v31 vs ∧ IntsAt w0.heap.size wr u0 (rowSoFar (List.replicate (allS l W) 1) (allS l W) s 0) ∧ Kp w0 wr, fun t12 _ => allS l W - (intOf t12).toNat, ⟨0, by omega, rfl, hout, by simpa [rowSoFar] using hu0, hk⟩, ?_⟩
  rintro _ _ wr ⟨s, hs, rfl, ho, hur, kr⟩
  by_cases hlt : s < allS l W
  case neg =>
    have hlt' : ¬ (s : Int) < (allS l W : Int) := by omega
    have es : s = allS l W := by omega
    subst es
    rw [soFar_all hfl] at hur
    simp (disch := omega) only [r_lss, hlt', decide_false, r_condF]
    rw [r_mulN _ _ (by omega), r_sub _ _ (by omega) (by omega)]
    refine r75_1 hset hW hH hall hr hL kr ho hlen (fun u hu => ?_) hK
    rw [hup] at hu
    cases hu
    rw [way_last]; exact hur
  have hlt' : (s : Int) < (allS l W : Int) := by omega
  obtain ⟨ob, oo, oc, eo, _, hco⟩ := (ho.rd vE_len).at hup
  have co : wr.cell? ⟨ob, oo + W * H, none⟩ = some u0 := by
    have := hco 0 _ rfl
    simpa using this
  have hsl := soFar_len (z := 0) hfl hs
  obtain ⟨g', cap, eu, hbg, hcell, hfr, hput⟩ := IntsAt.put hur (q := s) (by omega) 1
  have hii : ((W * H : Nat) : Int).toNat = W * H := by omega
  have hss : (s : Int).toNat = s := by omega
  rw [eu] at co
  have gown : u0.ownBlock = some g' := by rw [eu]; rfl
  simp (disch := omega) only [r_lss, decide_eq_true hlt', r_condT]
  rw [r_mulN _ _ (by omega)]
  have i31 : ∀ K : Value → Prop, iaS 1 v31 (.int .i64 (W * H : Nat)) K = K (.pointer (some ⟨ob, oo + W * H, none⟩)) := fun K => by
    rw [eo, r_iaS _ _ _ _ _ _ _ (by omega) (by omega), hii, Nat.mul_one]
  rw [i31, r_ld co]
  simp (disch := omega) only [r_iaS, hss, Nat.mul_one, Nat.zero_add]
  rw [st3 hcell hfr]
  have hch : Chg (fun q => q = g') wr (wr.setCell ⟨g', s, none⟩ (.int .i64 1)) := Chg.setCell _ _ rfl
  rw [r_add _ _ (by omega) (by omega)]
  have h1 : (List.replicate (allS l W) (1 : Int)).getD s 0 = 1 := by rw [getD_lt _ _ _ (by simpa using hlt), List.getElem_replicate]
  have hsf := soFar_set (z := 0) hfl hlt
  rw [h1] at hsf
  rw [hsf] at hput
  refine ⟨⟨s + 1, by omega, by go_num, ho.chg hch fun k hk' e => ?_, hput, Kp.of_chg kr hch fun q e => by rw [e]; exact hbg⟩, by simp only [intOf]; omega⟩
  subst e
  exact rec_ne hur ho (by decide) k gown hk'

set_option maxRecDepth 100000 in
theorem ways_calls {sv : Value} {l : List Tile} {W H : Nat} (w : World) (hr : RdT w sv l) (hset : IsSet l) (hW : 1 ≤ W ∧ W ≤ 4) (hH : 1 ≤ H ∧ H ≤ 4) (hall : allS l W ≤ 60000) :
    Calls Try.prog 75 #[sv, .int .i64 W, .int .i64 H] w fun e w' => ∃ v, e = .returned v ∧ Kp w w' ∧ IRows w.heap.size w' v ((List.range (W * H + 1)).map (wayL l W H)) := by
  have hWH : W * H ≤ 16 := Nat.mul_le_mul hW.2 hH.2
  have hlm := hset.most
  have hn := line_pos hset
  refine lift75 ?_
  unfold S75
  refine r_use fok70 (lines_calls w hr (by omega)) rfl ?_
  rintro _ w1 ⟨lv, rfl, o1, k1⟩
  refine ⟨_, rfl, ?_⟩
  obtain ⟨la, lc, elv, _⟩ := o1.len
  have hL : RdInts w1 lv (lineL l) := Rd.ints (o1.rd iC_len) (by have := line_len l; omega)
  have lnl : ∀ K : Value → Prop, ln1 lv K = K (.int .i64 (lineL l).length) := fun K => by rw [elv]; rfl
  rw [lnl]
  have hpw : (lineL l).length ^ W ≤ 60000 := by unfold allS at hall; omega
  refine r_use fok69 (power_calls (n := (lineL l).length) (k := W) w1 (by omega) hn (by omega)) rfl ?_
  rintro _ _ ⟨rfl, rfl⟩
  refine ⟨_, rfl, ?_⟩
  rw [r_mul8 _ (by omega), r_mulN _ _ (by omega), r_add _ _ (by omega) (by omega)]
  have e1 : ((W * H : Nat) : Int) + 1 = ((W * H + 1 : Nat) : Int) := by omega
  rw [e1]
  refine mk23 (by omega) fun v31 w2 o2 k2 => ?_
  rw [r_mulN _ _ (by omega)]
  change mkW Try.prog 30 (.int .i64 (allS l W : Nat)) (.int .i64 (allS l W : Nat)) w2 _
  refine mk30' (by omega) fun u w3 o3 k3 hgu => ?_
  have hlen : (List.replicate (W * H + 1) nilS).length = W * H + 1 := by simp
  obtain ⟨old, hold⟩ : ∃ x, (List.replicate (W * H + 1) nilS)[W * H]? = some x := ⟨_, List.getElem?_eq_getElem (by simp)⟩
  have o23 := o2.kp k3
  obtain ⟨ua, uc, eu, _⟩ := o3.len
  obtain ⟨g, cap, e31, hbg, ⟨x0, cx⟩, fx, hset2⟩ := RecAt.set (j := 0) (p' := u) (u := u) vE_len o23 hold (by omega) rfl
  simp only [Nat.mul_one, Nat.add_zero] at cx fx hset2
  have hii : ((W * H : Nat) : Int).toNat = W * H := by omega
  have i31 : ∀ K : Value → Prop, iaS 1 v31 (.int .i64 (W * H : Nat)) K = K (.pointer (some ⟨g, W * H, none⟩)) := fun K => by
    rw [e31, hlen, r_iaS _ _ _ _ _ _ _ (by omega) (by omega), hii, Nat.mul_one, Nat.zero_add]
  rw [i31]
  have hst : ∀ K : World → Prop, stW Try.prog 30 (.pointer (some ⟨g, W * H, none⟩)) u w3 K = K (w3.setCell ⟨g, W * H, none⟩ u) := fun K => by rw [eu]; exact st30 cx fx
  rw [hst]
  have gown : v31.ownBlock = some g := by rw [e31]; rfl
  have gl := (o2.lt gown).2
  have hch : Chg (fun q => q = g) w3 (w3.setCell ⟨g, W * H, none⟩ u) := Chg.setCell _ _ rfl
  generalize w3.setCell ⟨g, W * H, none⟩ u = w4 at *
  have k13 := Kp.trans k2 k3
  have k4 : Kp w1 w4 := Kp.of_chg k13 hch fun q e => by rw [e]; exact hbg
  refine r75_0 (w0 := w1) hset hW hH hall (hr.kp k1) hL k4 hset2 (by simp) (by rw [List.getElem?_set_self (by simp)]) ((o3.down k2.size).chg hch fun k hk' e => by rw [hgu] at hk'; injection hk' with hk'; omega) hgu fun w' kk ho => ⟨_, rfl, Kp.trans k1 kk, ?_⟩
  exact ho.down k1.size

end Go.Proofs.Ytgalbokmgffhkaa

/- Contract: Fill and Count of the specification. -/
namespace Go.Proofs.Ytgalbokmgffhkaa
open Go.Lf Go.RowKit Go.Wg

theorem allS_le {l : List Tile} {W : Nat} (hW : W ≤ 4) : allS l W ≤ 32768 := by
  unfold allS
  have h1 : (lineL l).length ^ W ≤ 8 ^ W := Nat.pow_le_pow_left (line_len l) W
  have h2 : 8 ^ W ≤ 8 ^ 4 := Nat.pow_le_pow_right (by omega) hW
  have h3 : (8 : Nat) ^ 4 = 4096 := by decide
  omega

abbrev waysLL (l : List Tile) (W H : Nat) : List (List Int) := (List.range (W * H + 1)).map (wayL l W H)
theorem waysLL_at {l : List Tile} {W H p : Nat} (hp : p ≤ W * H) : (waysLL l W H).getD p [] = wayL l W H p := by
  have : p < (waysLL l W H).length := by simp; omega
  rw [getD_lt _ _ _ this]
  simp
theorem waysLL_len (l : List Tile) (W H : Nat) : (waysLL l W H).length = W * H + 1 := by simp
theorem waysLL_row {l : List Tile} {W H : Nat} : ∀ r ∈ waysLL l W H, r.length = allS l W := fun r hr => by
  obtain ⟨p, _, rfl⟩ := List.mem_map.1 hr
  exact wayL_len l W H p

/-- A number of ways is read. -/
theorem ways_read {l : List Tile} {W H p s : Nat} {w : World} {v : Value} (hr : RdRows w v (waysLL l W H)) (hp : p ≤ W * H) (hs : s < allS l W) (hW : W * H ≤ 16) (ha : allS l W ≤ 32768) (K : Value → Prop) (hK : K (.int .i64 (capI (Wq l W H (W * H - p) s)))) :
    iaS 1 v (.int .i64 p) fun a => ld1 w a fun b => iaS 1 b (.int .i64 s) fun c => ld1 w c K := by
  have hlen := waysLL_len l W H
  obtain ⟨b, off, cap, rv, ev, hcell, hrow⟩ := hr.row (i := p) (by omega)
  rw [waysLL_at hp] at hrow
  obtain ⟨b2, o2, c2, e2, hc2⟩ := hrow.at (j := s) (by rw [wayL_len]; exact hs)
  rw [wayL_at hs] at hc2
  subst e2
  rw [ev, hlen]
  have hwl := wayL_len l W H p
  have hpp : (p : Int).toNat = p := by omega
  have hss : (s : Int).toNat = s := by omega
  rw [r_iaS _ _ _ _ _ _ _ (by omega) (by omega), hpp, Nat.mul_one, r_ld hcell, hwl, r_iaS _ _ _ _ _ _ _ (by omega) (by omega), hss, Nat.mul_one, r_ld hc2]
  exact hK

set_option maxRecDepth 100000 in
theorem refcount_calls {v : Value} {l : List Tile} (a b : Int) (w : World) (hr : RdT w v l) : Calls Try.prog 26 #[v, .int .i64 a, .int .i64 b] w fun e w' => e = .returned (countV l a b) ∧ Kp w w' := by
  refine lift26 ?_
  unfold S26
  refine r_use fok23 (order_calls a b w hr) rfl ?_
  rintro _ w1 ⟨rfl, k1⟩
  refine ⟨_, rfl, ?_⟩
  unfold countV
  have h20 : ¬ ((2 : Int) = 0) := by decide
  rcases ordErr_cases l a b with he | he
  rotate_left
  · simp (disch := omega) only [r_ln, r_pick, r_pickT, r_pickF, r_condT, r_condF, r_gdTT, r_gdFF, r_gdTF, r_gdFT, r_gqTT, r_gqFF, r_gqTF, r_gqFT, r_not, r_lss, r_leq, r_gtr, r_geq, r_eql, r_neq, r_add, r_sub, r_min2, r_max2, r_min3, r_max3, r_fa, r_iaS, r_iaA, r_ex2a, r_ex2b, r_ex3a, r_ex3b, r_ex3c, r_nc, r_keepE, Nat.zero_add, Nat.add_zero, Nat.mul_one, Int.toNat_natCast, toNat_sub1, toNat_add1, decide_true, decide_false, Bool.not_true, Bool.not_false, if_true, if_false, Bool.false_eq_true, reduceCtorEq, he, h20]
    exact ⟨by first | rfl | trivial, k1⟩
  obtain ⟨hs, W, H, rfl, rfl, hW, hH⟩ := ord_ok he
  have hWH : W * H ≤ 16 := Nat.mul_le_mul hW.2 hH.2
  have hal := allS_le (l := l) hW.2
  have hpos : 0 < allS l W := by
    have := Nat.pow_pos (n := W) (line_pos hs)
    unfold allS; omega
  simp (disch := omega) only [r_ln, r_pick, r_pickT, r_pickF, r_condT, r_condF, r_gdTT, r_gdFF, r_gdTF, r_gdFT, r_gqTT, r_gqFF, r_gqTF, r_gqFT, r_not, r_lss, r_leq, r_gtr, r_geq, r_eql, r_neq, r_add, r_sub, r_min2, r_max2, r_min3, r_max3, r_fa, r_iaS, r_iaA, r_ex2a, r_ex2b, r_ex3a, r_ex3b, r_ex3c, r_nc, r_keepE, Nat.zero_add, Nat.add_zero, Nat.mul_one, Int.toNat_natCast, toNat_sub1, toNat_add1, decide_true, decide_false, Bool.not_true, Bool.not_false, if_true, if_false, Bool.false_eq_true, reduceCtorEq, he, decide_eq_true (rfl : (0 : Int) = 0), Int.toNat_natCast]
  rw [count_exact hs hW (by omega), ← ways_boards hs (by omega) (by omega)]
  refine r_use fok75 (ways_calls w1 (hr.kp k1) hs hW hH (by omega)) rfl ?_
  rintro _ w2 ⟨v2, rfl, k2, o2⟩
  refine ⟨_, rfl, ?_⟩
  have hrows : RdRows w2 v2 (waysLL l W H) := o2.rd (by rw [waysLL_len]; omega) fun r h => by rw [waysLL_row r h]; omega
  refine ways_read (p := 0) (s := 0) hrows (by omega) hpos hWH hal _ ?_
  rw [Nat.sub_zero]
  generalize Wq l W H (W * H) 0 = n
  unfold limV
  by_cases g : (1099511627776 : Int) < capI n
  · simp (disch := omega) only [r_ln, r_pick, r_pickT, r_pickF, r_condT, r_condF, r_gdTT, r_gdFF, r_gdTF, r_gdFT, r_gqTT, r_gqFF, r_gqTF, r_gqFT, r_not, r_lss, r_leq, r_gtr, r_geq, r_eql, r_neq, r_add, r_sub, r_min2, r_max2, r_min3, r_max3, r_fa, r_iaS, r_iaA, r_ex2a, r_ex2b, r_ex3a, r_ex3b, r_ex3c, r_nc, r_keepE, Nat.zero_add, Nat.add_zero, Nat.mul_one, Int.toNat_natCast, toNat_sub1, toNat_add1, decide_true, decide_false, Bool.not_true, Bool.not_false, if_true, if_false, Bool.false_eq_true, reduceCtorEq, decide_eq_true g]
    rw [if_pos g]
    exact ⟨rfl, Kp.trans k1 k2⟩
  · simp (disch := omega) only [r_ln, r_pick, r_pickT, r_pickF, r_condT, r_condF, r_gdTT, r_gdFF, r_gdTF, r_gdFT, r_gqTT, r_gqFF, r_gqTF, r_gqFT, r_not, r_lss, r_leq, r_gtr, r_geq, r_eql, r_neq, r_add, r_sub, r_min2, r_max2, r_min3, r_max3, r_fa, r_iaS, r_iaA, r_ex2a, r_ex2b, r_ex3a, r_ex3b, r_ex3c, r_nc, r_keepE, Nat.zero_add, Nat.add_zero, Nat.mul_one, Int.toNat_natCast, toNat_sub1, toNat_add1, decide_true, decide_false, Bool.not_true, Bool.not_false, if_true, if_false, Bool.false_eq_true, reduceCtorEq, g]
    exact ⟨by first | rfl | trivial, Kp.trans k1 k2⟩

theorem flat_inj {W : Nat} (hW : 0 < W) : ∀ {A B : List (List Nat)}, (∀ r ∈ A, r.length = W) → (∀ r ∈ B, r.length = W) → A.flatten = B.flatten → A = B
  | [], [], _, _, _ => rfl
  | [], r :: B, _, hB, h => by
    have := hB r (by simp)
    have hl : 0 = r.length + B.flatten.length := by rw [← List.length_append, ← List.flatten_cons, ← h]; rfl
    omega
  | r :: A, [], hA, _, h => by
    have := hA r (by simp)
    have hl : 0 = r.length + A.flatten.length := by rw [← List.length_append, ← List.flatten_cons, h]; rfl
    omega
  | r :: A, q :: B, hA, hB, h => by
    rw [List.flatten_cons, List.flatten_cons] at h
    have h1 := hA r (by simp)
    have h2 := hB q (by simp)
    obtain ⟨e1, e2⟩ := List.append_inj h (by omega)
    rw [e1, flat_inj hW (fun x hx => hA x (by simp [hx])) (fun x hx => hB x (by simp [hx])) e2]

/-- Rows that are whole, and one that grows. -/
structure OSt (base : Nat) (w : World) (t12 t13 : Value) (R : List (List Nat)) (row : List Nat) : Prop where
  out : ∃ vs : List Value, RecAt 30 1 vE base w t12 vs ∧ vs.length = R.length ∧ ∀ (i : Nat) (u : Value) (r : List Nat), vs[i]? = some u → R[i]? = some r → IntsAt base w u (intsR r) ∧ ∀ k, u.ownBlock = some k → t13.ownBlock ≠ some k
  row : IntsAt base w t13 (intsR row)
theorem OSt.later {base : Nat} {w w' : World} {t12 t13 : Value} {R : List (List Nat)} {row : List Nat} (h : OSt base w t12 t13 R row) (k : Kp w w') : OSt base w' t12 t13 R row :=
  ⟨let ⟨vs, h1, h2, h3⟩ := h.out; ⟨vs, h1.kp k, h2, fun i u r hu hr => ⟨(h3 i u r hu hr).1.kp k, (h3 i u r hu hr).2⟩⟩, h.row.kp k⟩
theorem OSt.irows {base : Nat} {w : World} {t12 t13 : Value} {R : List (List Nat)} {row : List Nat} (h : OSt base w t12 t13 R row) : IRows base w t12 (R.map intsR) := by
  obtain ⟨vs, h1, h2, h3⟩ := h.out
  refine ⟨vs, h1, by simp [h2], fun i u r hu hr => ?_⟩
  rw [List.getElem?_map] at hr
  cases hq : R[i]? with
  | none => rw [hq] at hr; cases hr
  | some q =>
    rw [hq] at hr
    cases hr
    exact (h3 i u q hu hq).1
set_option maxRecDepth 100000 in
/-- append(row, i) -/
theorem OSt.push {base : Nat} {w : World} {t12 t13 : Value} {R : List (List Nat)} {row : List Nat} {i : Nat} {K : Value → World → Prop} (h : OSt base w t12 t13 R row) (hl : row.length ≤ 1000) (hb : base ≤ w.heap.size)
    (hk : ∀ v' w', OSt base w' t12 v' R (row ++ [i]) → w.heap.size ≤ w'.heap.size → (∀ W0 : World, W0.heap.size ≤ base → Kp W0 w → Kp W0 w') → K v' w') :
    bsW Try.prog 30 1 [(0, .int .i64 i)] w fun s w => semW Try.prog (apS [30, 30] 30 [t13, s]) w K := by
  obtain ⟨⟨vs, h1, h2, h3⟩, h4⟩ := h
  refine r_pushRec (x := (i : Int)) slt30 iC_len rfl (bs30 _ _ _) (by intro u hu; simp [iC] at hu; rw [hu]; rfl) (by omega) h4 (by simp [intsR]; omega) hb fun v' w' ho hc ha => ?_
  refine hk v' w' ⟨⟨vs, h1.chg hc fun q hq e => rec_ne h4 h1 (by decide) q e hq, h2, fun j u r hu hr => ?_⟩, by simpa [intsR] using ho⟩ hc.size fun W0 hW0 kk => Kp.of_chg kk hc fun q e => by have := (h4.lt e).1; omega
  obtain ⟨g1, g2⟩ := h3 j u r hu hr
  refine ⟨g1.chg hc fun q hq e => g2 q hq e, fun k hk' e => ?_⟩
  rcases ha k e with h | h
  · exact g2 k hk' h
  · have := (g1.lt hk').2; omega
set_option maxRecDepth 100000 in
/-- append(out, row), and the row is begun anew. -/
theorem OSt.flush {base : Nat} {w : World} {t12 t13 : Value} {R : List (List Nat)} {row : List Nat} {K : Value → World → Prop} (h : OSt base w t12 t13 R row) (hl : R.length ≤ 1000) (hb : base ≤ w.heap.size)
    (hk : ∀ v' w', OSt base w' v' nilS (R ++ [row]) [] → w.heap.size ≤ w'.heap.size → (∀ W0 : World, W0.heap.size ≤ base → Kp W0 w → Kp W0 w') → K v' w') :
    bsW Try.prog 23 1 [(0, t13)] w fun s w => semW Try.prog (apS [23, 23] 23 [t12, s]) w K := by
  have hI := h.irows
  obtain ⟨⟨vs0, p1, _, _⟩, h4⟩ := h
  obtain ⟨a, c, e, _⟩ := h4.len
  rw [e] at h4 ⊢
  refine r_pushRow hI h4 (by rw [List.length_map]; omega) hb fun v' w' ho hc _ => ?_
  refine hk v' w' ⟨?_, RecAt.nil⟩ hc.size fun W0 hW0 kk => Kp.of_chg kk hc fun q e => by have := (p1.lt e).1; omega
  obtain ⟨vs, q1, q2, q3⟩ := ho
  refine ⟨vs, q1, by rw [q2]; simp, fun i u r hu hr => ⟨q3 i u (intsR r) hu ?_, fun k _ e => by cases e⟩⟩
  have e2 : R.map intsR ++ [intsR row] = (R ++ [row]).map intsR := by simp
  rw [e2, List.getElem?_map, hr]
  rfl

set_option maxRecDepth 100000 in
set_option maxHeartbeats 800000 in
/-- The least tile at a cell. -/
theorem r28_1 {l : List Tile} {W H p s base : Nat} {sv lv wv t12 t13 : Value} {R : List (List Nat)} {row : List Nat} {w0 w : World} {k3 : Value → Value → World → Prop} (hset : IsSet l) (hW : 1 ≤ W ∧ W ≤ 4) (hH : 1 ≤ H ∧ H ≤ 4) (hr : RdT w0 sv l) (hL : RdInts w0 lv (lineL l)) (hwv : RdRows w0 wv (waysLL l W H)) (hk : Kp w0 w) (hb0 : w0.heap.size ≤ base) (hb : base ≤ w.heap.size)
    (hp : p < W * H) (hs : s < allS l W) (hpos : 0 < Wq l W H (W * H - p) s) (S : OSt base w t12 t13 R row) (hrl : row.length ≤ 100)
    (hn : ∀ i v' w', i < l.length → (List.range l.length).find? (okB l W H (W * H - (p + 1)) s) = some i → OSt base w' t12 v' R (row ++ [i]) → Kp w0 w' → base ≤ w'.heap.size → k3 (.int .i64 (nxtS l W p s i)) v' w') :
    S28L1 sv (.int .i64 W) (.int .i64 s) t13 (.int .i64 p) wv lv k3 w := by
  have hWH : W * H ≤ 16 := Nat.mul_le_mul hW.2 hH.2
  have hal := allS_le (l := l) hW.2
  obtain ⟨sa, sc, es, _⟩ := hr.len
  have lns : ∀ K : Value → Prop, ln1 sv K = K (.int .i64 l.length) := fun K => by rw [es]; rfl
  have hlm := hset.most
  have hqp : W * H - (W * H - (p + 1) + 1) = p := by omega
  unfold S28L1
  refine ⟨fun t11 t13' t15 wr => ∃ i : Nat, i ≤ l.length ∧ t15 = .int .i64 i ∧ t11 = .int .i64 s ∧ t13 = t13' ∧ (∀ j, j < i → okB l W H (W * H - (p + 1)) s j = false) ∧ Kp w wr, fun _ _ t15 _ => l.length - (intOf t15).toNat, ⟨0, by omega, rfl, rfl, rfl, fun j hj => by omega, Kp.refl _⟩, ?_⟩
  rintro _ _ _ _ wr ⟨i, hi, rfl, rfl, rfl, hno, kr⟩
  rw [lns]
  have Sr := S.later kr
  by_cases hlt : i < l.length
  case neg =>
    exfalso
    rw [Wq_tot hp, tot_pos] at hpos
    obtain ⟨t, ht, h0⟩ := hpos
    obtain ⟨j, hj, rfl⟩ := List.getElem_of_mem ht
    have := hno j (by omega)
    have etl : tl l j = l[j] := by rw [tl, List.getD_eq_getElem?_getD, List.getElem?_eq_getElem hj]; rfl
    rw [okB, hqp, etl] at this
    rw [addW] at h0
    cases hm : putM l W p s l[j] with
    | none => rw [hm] at h0; simp at h0
    | some s' =>
      rw [hm] at h0 this
      have h0' : 0 < Wq l W H (W * H - (p + 1)) s' := h0
      simp at this
      omega
  have hlt' : (i : Int) < (l.length : Int) := by omega
  obtain ⟨b, off, cap, e, _, hcell⟩ := (hr.kp (Kp.trans hk kr)).at (List.getElem?_eq_getElem hlt)
  have hii : (i : Int).toNat = i := by omega
  have ia : ∀ K : Value → Prop, iaS 4 sv (.int .i64 i) K = K (.pointer (some ⟨b, off + i * 4, none⟩)) := fun K => by rw [e, r_iaS _ _ _ _ _ _ _ (by omega) (by omega), hii]
  have htm := List.getElem_mem hlt
  have etl : tl l i = l[i] := by rw [tl, List.getD_eq_getElem?_getD, List.getElem?_eq_getElem hlt]; rfl
  have hokE : okB l W H (W * H - (p + 1)) s i = match putM l W p s l[i] with
      | some s' => decide (0 < Wq l W H (W * H - (p + 1)) s')
      | none => false := by rw [okB, hqp, etl]; cases putM l W p s l[i] <;> rfl
  have hstE : ∀ s', putM l W p s l[i] = some s' → nxtS l W p s i = s' := fun s' h => by rw [nxtS, etl, h]; rfl
  generalize l[i] = t at *
  have ev : ∀ t : Tile, Value.agg (tlC t).toArray = tlV t := fun t => rfl
  simp (disch := omega) only [r_lss, decide_eq_true hlt', r_condT, ia, r_ldCells (tlC_len t) hcell, ev]
  refine r_use fok80 (put_calls (p := p) (s := s) wr (hL.below (Kp.trans hk kr)) hset htm hW (by omega) hs (by unfold allS at hal; omega)) rfl ?_
  rintro _ w2 ⟨rfl, k2⟩
  refine ⟨_, rfl, ?_⟩
  have kr2 := Kp.trans kr k2
  have goOn : okB l W H (W * H - (p + 1)) s i = false → (∃ j : Nat, j ≤ l.length ∧ Value.int .i64 ((i : Int) + 1) = .int .i64 j ∧ True ∧ True ∧ (∀ x, x < j → okB l W H (W * H - (p + 1)) s x = false) ∧ Kp w w2) ∧ l.length - (intOf (.int .i64 ((i : Int) + 1))).toNat < l.length - (intOf (.int .i64 (i : Int))).toNat := fun hf =>
    ⟨⟨i + 1, by omega, by go_num, trivial, trivial, fun j hj => by
      by_cases hji : j = i
      · rw [hji]; exact hf
      · exact hno j (by omega), kr2⟩, by simp only [intOf]; omega⟩
  cases hpm : putM l W p s t with
  | none =>
    rw [hpm] at hokE
    have hneg : ¬ (0 : Int) ≤ -1 := by decide
    simp (disch := omega) only [putV, r_geq, hneg, decide_false, r_gdFT, r_gdU, r_pickF, r_condF]
    rw [r_add _ _ (by omega) (by omega)]
    exact goOn hokE
  | some s' =>
    rw [hpm] at hokE
    have hs' := put_lt hset htm hW.1 hs hpm
    have hnn : (0 : Int) ≤ (s' : Int) := by omega
    simp (disch := omega) only [putV, r_geq, decide_eq_true hnn, r_gdTT, r_pickT]
    rw [r_add _ _ (by omega) (by omega)]
    have e1 : (p : Int) + 1 = ((p + 1 : Nat) : Int) := by omega
    rw [e1]
    refine ways_read (hwv.below (Kp.trans hk kr2)) (by omega) hs' hWH hal _ ?_
    have hcp : (0 : Int) < capI (Wq l W H (W * H - (p + 1)) s') ↔ 0 < Wq l W H (W * H - (p + 1)) s' := by unfold capI; omega
    by_cases h0 : 0 < Wq l W H (W * H - (p + 1)) s'
    · simp (disch := omega) only [r_gtr, decide_eq_true (hcp.2 h0), r_condT]
      have hok : okB l W H (W * H - (p + 1)) s i = true := by rw [hokE]; exact decide_eq_true h0
      have S2 := S.later kr2
      have sz2 := kr2.size
      refine S2.push (by omega) (by omega) fun v' w' S' hsz hkk => ?_
      have hf : (List.range l.length).find? (okB l W H (W * H - (p + 1)) s) = some i := by
        have hsplit : List.range l.length = List.range i ++ i :: (List.range (l.length - i - 1)).map (fun j => i + 1 + j) := by
          have e : l.length = i + (1 + (l.length - i - 1)) := by omega
          conv => lhs; rw [e, List.range_add, List.range_add]
          simp [Nat.add_assoc]
        rw [hsplit, List.find?_append, List.find?_cons, hok]
        have : (List.range i).find? (okB l W H (W * H - (p + 1)) s) = none := by
          rw [List.find?_eq_none]
          intro j hj h
          rw [hno j (List.mem_range.1 hj)] at h
          cases h
        rw [this]; rfl
      have hk' := hkk w0 hb0 (Kp.trans hk kr2)
      have := hn i v' w' hlt hf S' hk' (by omega)
      rw [hstE s' hpm] at this
      exact this
    · have h0' : ¬ (0 : Int) < capI (Wq l W H (W * H - (p + 1)) s') := fun h => h0 (hcp.1 h)
      simp (disch := omega) only [r_gtr, h0', decide_false, r_condF]
      rw [r_add _ _ (by omega) (by omega)]
      exact goOn (by rw [hokE]; exact decide_eq_false h0)

end Go.Proofs.Ytgalbokmgffhkaa

/- Lifted texts, printed by program (gen.py): what each function's code asks. The ties are by the kernel. -/
namespace Go.Proofs.Ytgalbokmgffhkaa
open Go.Lf Go.RowKit

def S49L1 (t1 t48 t49 : Value) (R : Ending → World → Prop) (w : World) : Prop :=
  Loop2 (.slice none 0 0) (.int .i64 0) w fun _ t9 t50 w next_2 =>
    binQ Try.prog w .lss 3 false t50 t49 fun t51 =>
    condW t51 (
      iaS 1 t48 t50 fun t52 =>
      ld1 w t52 fun t53 =>
      ln1 t1 fun t57 =>
      callW Try.prog (.func (.func 83) #[] #[]) [t53, t57] w fun t58 w =>
      bsW Try.prog 23 1 [(0, t58)] w fun t59 w =>
      semW Try.prog (apS [23, 23] 23 [t9, t59]) w fun t60 w =>
      binQ Try.prog w .add 3 true t50 (.int .i64 1) fun t61 =>
      next_2 t60 t61 w
    ) (
      R (.returned (.tuple #[t9, (.int .i64 0)])) w
    )

def S49L0 (t1 t28 t29 : Value) (R : Ending → World → Prop) (w : World) : Prop :=
  Loop2 (.slice none 0 0) (.int .i64 0) w fun _ t6 t30 w next =>
    binQ Try.prog w .lss 3 false t30 t29 fun t31 =>
    condW t31 (
      iaS 7 t28 t30 fun t32 =>
      ldN 7 w t32 fun t33 =>
      boxW 78 (.agg #[(.int .i64 0), (.int .i64 0), (.int .i64 0), (.int .i64 0), (.int .i64 0), (.int .i64 0), (.bool false)]) w fun t8 w =>
      stW Try.prog 78 t8 t33 w fun w =>
      Drew w fun w =>
      fa1 t8 4 fun t34 =>
      ld1 w t34 fun t35 =>
      callW Try.prog (.func (.func 58) #[] #[]) [t1] w <| keepB w fun t37 w =>
      binQ Try.prog w .eql 3 false t35 t37 fun t38 =>
      Join (fun (k_2 : Value → World → Prop) =>
        condW t38 (
          fa1 t8 5 fun t40 =>
          ld1 w t40 fun t41 =>
          bsW Try.prog 30 1 [(0, t41)] w fun t42 w =>
          semW Try.prog (apS [30, 30] 30 [t6, t42]) w fun t43 w =>
          k_2 t43 w
        ) (
          k_2 t6 w
        )
      ) fun t6_2 w =>
      binQ Try.prog w .add 3 true t30 (.int .i64 1) fun t44_2 =>
      next t6_2 t44_2 w
    ) (
      callW Try.prog (.func (.func 97) #[] #[]) [t6] w fun t46 w =>
      callW Try.prog (.func (.func 98) #[] #[]) [t6] w fun t48 w =>
      ln1 t48 fun t49 =>
      S49L1 t1 t48 t49 R w
    )

def S49 (t0 t1 : Value) (w : World) (R : Ending → World → Prop) : Prop :=
  callW Try.prog (.func (.func 65) #[] #[]) [t0] w fun t13 w =>
  unQ .not t13 fun t14 =>
  gd t14 false (fun k => k t1 w) w fun t16 w =>
  gd t14 false (fun k => ln1 t16 fun v => k v w) w fun t17 w =>
  gd t14 false (fun k => callW Try.prog (.func (.func 66) #[] #[]) [t17] w k) w fun t18 w =>
  gd t14 false (fun k => unQ .not t18 fun v => k v w) w fun t19 w =>
  pickQ t14 (.bool true) t19 fun t20 =>
  gd t20 false (fun k => k t1 w) w fun t22 w =>
  gd t20 false (fun k => callW Try.prog (.func (.func 54) #[] #[]) [t22, (.func (.func 96) #[] #[])] w k) w fun t23 w =>
  pickQ t20 (.bool true) t23 fun t24 =>
  condW t24 (
    R (.returned (.tuple #[(.slice none 0 0), (.int .i64 2)])) w
  ) (
    ln1 t1 fun t27 =>
    callW Try.prog (.func (.func 59) #[] #[]) [t0, t27] w fun t28 w =>
    ln1 t28 fun t29 =>
    S49L0 t1 t28 t29 R w
  )

def A49 : Ann where
  live := fun
    | 0 => [6, 30]
    | 2 => [9, 50]
    | _ => []
  wr := fun
    | 0 => fun i => Nat.beq i 6 || Nat.beq i 8 || (Nat.ble 30 i && Nat.ble i 44)
    | 2 => fun i => Nat.beq i 9 || Nat.beq i 11 || (Nat.ble 50 i && Nat.ble i 61)
    | _ => fun _ => false
  sched := fun
    | 7 => (.take 0 (.take 1 (.take 2 (.eff 3 (.take 4 .done)))))
    | _ => .done

set_option maxRecDepth 100000 in
theorem ok49 : (codeOk Try.f49.ntmps A49 (Try.f49.body.getD .skip) 0 && Nat.ble 2 Try.f49.ntmps) = true := by kernel_rfl
set_option maxRecDepth 100000 in
theorem lift49 {t0 t1 : Value} {w : World} {R : Ending → World → Prop} (h : S49 t0 t1 w R) : Calls Try.prog 49 #[t0, t1] w R :=
  calls_of_cw (fn := Try.f49) (c := Try.f49.body.getD .skip) A49 mixes Try.func49 (by kernel_rfl) ok49
    ((by kernel_rfl : (S49 t0 t1 w R) = cw Try.prog A49 (Try.f49.body.getD .skip) 0 (bodyQ Try.prog Try.f49 R) (frOf #[t0, t1]) w).mp h)

def S96 (t0 : Value) (w : World) (R : Ending → World → Prop) : Prop :=
  callW Try.prog (.func (.func 56) #[] #[]) [t0] w fun t4 w =>
  unQ .not t4 fun t5 =>
  R (.returned t5) w

def A96 : Ann where
  live := fun _ => []
  wr := fun _ _ => false
  sched := fun _ => .done

set_option maxRecDepth 100000 in
theorem ok96 : (codeOk Try.f96.ntmps A96 (Try.f96.body.getD .skip) 0 && Nat.ble 1 Try.f96.ntmps) = true := by kernel_rfl
set_option maxRecDepth 100000 in
theorem lift96 {t0 : Value} {w : World} {R : Ending → World → Prop} (h : S96 t0 w R) : Calls Try.prog 96 #[t0] w R :=
  calls_of_cw (fn := Try.f96) (c := Try.f96.body.getD .skip) A96 mixes Try.func96 (by kernel_rfl) ok96
    ((by kernel_rfl : (S96 t0 w R) = cw Try.prog A96 (Try.f96.body.getD .skip) 0 (bodyQ Try.prog Try.f96 R) (frOf #[t0]) w).mp h)

def S98L1 (t0 t3 t28 : Value) (R : Ending → World → Prop) (w : World) : Prop :=
  Loop2 t3 (.int .i64 1) w fun _ t3_2 t5 w next_2 =>
    ln1 t28 fun t31 =>
    binQ Try.prog w .lss 3 false t5 t31 fun t32 =>
    condW t32 (
      Drew w fun w =>
      iaS 1 t28 t5 fun t37 =>
      ld1 w t37 fun t38 =>
      binQ Try.prog w .sub 3 true t5 (.int .i64 1) fun t41 =>
      iaS 1 t28 t41 fun t42 =>
      ld1 w t42 fun t43 =>
      binQ Try.prog w .neq 3 false t38 t43 fun t44 =>
      Join (fun (k_2 : Value → World → Prop) =>
        condW t44 (
          iaS 1 t28 t5 fun t49 =>
          ld1 w t49 fun t50 =>
          iaS 1 t0 t3_2 fun t51 =>
          stW Try.prog 3 t51 t50 w fun w =>
          binQ Try.prog w .add 3 true t3_2 (.int .i64 1) fun t53 =>
          k_2 t53 w
        ) (
          k_2 t3_2 w
        )
      ) fun t3_3 w =>
      binQ Try.prog w .add 3 true t5 (.int .i64 1) fun t34_2 =>
      next_2 t3_3 t34_2 w
    ) (
      slS 1 t0 (some t3_2) none fun t56 =>
      semW Try.prog (clS [30] 0 [t56]) w fun _ w =>
      slS 1 t0 none (some t3_2) fun t59 =>
      R (.returned t59) w
    )

def S98L0 (t0 : Value) (R : Ending → World → Prop) (w : World) : Prop :=
  Loop1 (.int .i64 1) w fun _ t3 w next =>
    ln1 t0 fun t12 =>
    binQ Try.prog w .lss 3 false t3 t12 fun t13 =>
    condW t13 (
      Drew w fun w =>
      iaS 1 t0 t3 fun t18 =>
      ld1 w t18 fun t19 =>
      binQ Try.prog w .sub 3 true t3 (.int .i64 1) fun t22 =>
      iaS 1 t0 t22 fun t23 =>
      ld1 w t23 fun t24 =>
      binQ Try.prog w .eql 3 false t19 t24 fun t25 =>
      condW t25 (
        slS 1 t0 (some t3) none fun t28 =>
        S98L1 t0 t3 t28 R w
      ) (
        binQ Try.prog w .add 3 true t3 (.int .i64 1) fun t15 =>
        next t15 w
      )
    ) (
      R (.returned t0) w
    )

def S98 (t0 : Value) (w : World) (R : Ending → World → Prop) : Prop :=
  ln1 t0 fun t7 =>
  binQ Try.prog w .lss 3 true t7 (.int .i64 2) fun t8 =>
  condW t8 (
    R (.returned t0) w
  ) (
    S98L0 t0 R w
  )

def A98 : Ann where
  live := fun
    | 0 => [3]
    | 2 => [3, 5]
    | _ => []
  wr := fun
    | 0 => fun i => (Nat.ble 2 i && Nat.ble i 5) || (Nat.ble 10 i && Nat.ble i 59)
    | 2 => fun i => Nat.beq i 3 || Nat.beq i 5 || (Nat.ble 29 i && Nat.ble i 53)
    | _ => fun _ => false
  sched := fun
    | 6 => (.take 0 (.take 1 (.take 2 (.take 3 (.take 4 (.take 5 (.take 6 (.take 7 (.take 8 (.take 9 .done))))))))))
    | 11 => (.take 0 (.take 1 (.take 2 (.take 3 (.take 4 (.take 5 (.take 6 (.take 7 (.take 8 (.take 9 .done))))))))))
    | _ => .done

set_option maxRecDepth 100000 in
theorem ok98 : (codeOk Try.f98.ntmps A98 (Try.f98.body.getD .skip) 0 && Nat.ble 1 Try.f98.ntmps) = true := by kernel_rfl
set_option maxRecDepth 100000 in
theorem lift98 {t0 : Value} {w : World} {R : Ending → World → Prop} (h : S98 t0 w R) : Calls Try.prog 98 #[t0] w R :=
  calls_of_cw (fn := Try.f98) (c := Try.f98.body.getD .skip) A98 mixes Try.func98 (by kernel_rfl) ok98
    ((by kernel_rfl : (S98 t0 w R) = cw Try.prog A98 (Try.f98.body.getD .skip) 0 (bodyQ Try.prog Try.f98 R) (frOf #[t0]) w).mp h)

def S14L1 (t7 t34 : Value) (next : Value → World → Prop) (w : World) : Prop :=
  Loop1 (.int .i64 0) w fun _ t10 w next_2 =>
    ln1 t34 fun t47 =>
    binQ Try.prog w .lss 3 false t10 t47 fun t48 =>
    condW t48 (
      iaS 1 t34 t10 fun t53 =>
      ld1 w t53 fun t54 =>
      iaS 1 t54 (.int .i64 0) fun t55 =>
      stW Try.prog 3 t55 (.int .i64 99) w fun w =>
      binQ Try.prog w .add 3 true t10 (.int .i64 1) fun t50 =>
      next_2 t50 w
    ) (
      binQ Try.prog w .add 3 true t7 (.int .i64 1) fun t29 =>
      next t29 w
    )

def S14L0 (t0 t1 t24 t25 : Value) (R : Ending → World → Prop) (w : World) : Prop :=
  Loop1 (.int .i64 0) w fun _ t7 w next =>
    binQ Try.prog w .lss 3 true t7 (.int .i64 2) fun t27 =>
    condW t27 (
      callW Try.prog (.func (.func 49) #[] #[]) [t0, t1] w fun t33 w =>
      exQ t33 0 fun t34 =>
      exQ t33 1 fun t35 =>
      binQ Try.prog w .neq 26 false t35 t25 fun t38 =>
      gd t38 false (fun k => k t34 w) w fun t40 w =>
      gd t38 false (fun k => k t24 w) w fun t41 w =>
      gd t38 false (fun k => callW Try.prog (.func (.func 29) #[] #[]) [t40, t41] w k) w fun t42 w =>
      gd t38 false (fun k => unQ .not t42 fun v => k v w) w fun t43 w =>
      pickQ t38 (.bool true) t43 fun t44 =>
      condW t44 (
        R (.returned (.bool false)) w
      ) (
        S14L1 t7 t34 next w
      )
    ) (
      callW Try.prog (.func (.func 18) #[] #[]) [] w fun t56 w =>
      R (.returned t56) w
    )

def S14 (t0 t1 : Value) (w : World) (R : Ending → World → Prop) : Prop :=
  ln1 t0 fun t12 =>
  binQ Try.prog w .gtr 3 true t12 (.int .i64 40) fun t13 =>
  gd t13 false (fun k => k t1 w) w fun t15 w =>
  gd t13 false (fun k => ln1 t15 fun v => k v w) w fun t16 w =>
  gd t13 false (fun k => binQ Try.prog w .gtr 3 true t16 (.int .i64 20) fun v => k v w) w fun t17 w =>
  pickQ t13 (.bool true) t17 fun t18 =>
  condW t18 (
    callW Try.prog (.func (.func 18) #[] #[]) [] w fun t19 w =>
    R (.returned t19) w
  ) (
    callW Try.prog (.func (.func 48) #[] #[]) [t0, t1] w fun t23 w =>
    exQ t23 0 fun t24 =>
    exQ t23 1 fun t25 =>
    S14L0 t0 t1 t24 t25 R w
  )

def A14 : Ann where
  live := fun
    | 0 => [7]
    | 2 => [10]
    | _ => []
  wr := fun
    | 0 => fun i => Nat.beq i 4 || (Nat.ble 7 i && Nat.ble i 10) || (Nat.ble 26 i && Nat.ble i 55)
    | 2 => fun i => Nat.beq i 10 || (Nat.ble 45 i && Nat.ble i 55)
    | _ => fun _ => false
  sched := fun _ => .done

set_option maxRecDepth 100000 in
theorem ok14 : (codeOk Try.f14.ntmps A14 (Try.f14.body.getD .skip) 0 && Nat.ble 2 Try.f14.ntmps) = true := by kernel_rfl
set_option maxRecDepth 100000 in
theorem lift14 {t0 t1 : Value} {w : World} {R : Ending → World → Prop} (h : S14 t0 t1 w R) : Calls Try.prog 14 #[t0, t1] w R :=
  calls_of_cw (fn := Try.f14) (c := Try.f14.body.getD .skip) A14 mixes Try.func14 (by kernel_rfl) ok14
    ((by kernel_rfl : (S14 t0 t1 w R) = cw Try.prog A14 (Try.f14.body.getD .skip) 0 (bodyQ Try.prog Try.f14 R) (frOf #[t0, t1]) w).mp h)

def S29L0 (t0 t1 : Value) (R : Ending → World → Prop) (w : World) : Prop :=
  Loop1 (.int .i64 0) w fun _ t5 w next =>
    ln1 t0 fun t13 =>
    binQ Try.prog w .lss 3 false t5 t13 fun t14 =>
    condW t14 (
      Drew w fun w =>
      iaS 1 t0 t5 fun t19 =>
      ld1 w t19 fun t20 =>
      iaS 1 t1 t5 fun t23 =>
      ld1 w t23 fun t24 =>
      callW Try.prog (.func (.func 43) #[] #[]) [t20, t24] w fun t25 w =>
      unQ .not t25 fun t26 =>
      condW t26 (
        R (.returned (.bool false)) w
      ) (
        binQ Try.prog w .add 3 true t5 (.int .i64 1) fun t16 =>
        next t16 w
      )
    ) (
      R (.returned (.bool true)) w
    )

def S29 (t0 t1 : Value) (w : World) (R : Ending → World → Prop) : Prop :=
  ln1 t0 fun t7 =>
  ln1 t1 fun t9 =>
  binQ Try.prog w .neq 3 false t7 t9 fun t10 =>
  condW t10 (
    R (.returned (.bool false)) w
  ) (
    S29L0 t0 t1 R w
  )

def A29 : Ann where
  live := fun
    | 0 => [5]
    | _ => []
  wr := fun
    | 0 => fun i => (Nat.ble 4 i && Nat.ble i 5) || (Nat.ble 11 i && Nat.ble i 26)
    | _ => fun _ => false
  sched := fun
    | 6 => (.take 0 (.take 1 (.take 2 (.take 3 (.take 4 (.take 5 (.take 6 (.take 7 (.bar 8 (.take 9 .done))))))))))
    | _ => .done

set_option maxRecDepth 100000 in
theorem ok29 : (codeOk Try.f29.ntmps A29 (Try.f29.body.getD .skip) 0 && Nat.ble 2 Try.f29.ntmps) = true := by kernel_rfl
set_option maxRecDepth 100000 in
theorem lift29 {t0 t1 : Value} {w : World} {R : Ending → World → Prop} (h : S29 t0 t1 w R) : Calls Try.prog 29 #[t0, t1] w R :=
  calls_of_cw (fn := Try.f29) (c := Try.f29.body.getD .skip) A29 mixes Try.func29 (by kernel_rfl) ok29
    ((by kernel_rfl : (S29 t0 t1 w R) = cw Try.prog A29 (Try.f29.body.getD .skip) 0 (bodyQ Try.prog Try.f29 R) (frOf #[t0, t1]) w).mp h)

theorem fok49 : fnOk Try.prog 49 = true := by kernel_rfl
theorem fok96 : fnOk Try.prog 96 = true := by kernel_rfl
theorem fok98 : fnOk Try.prog 98 = true := by kernel_rfl
theorem fok14 : fnOk Try.prog 14 = true := by kernel_rfl
theorem fok29 : fnOk Try.prog 29 = true := by kernel_rfl
end Go.Proofs.Ytgalbokmgffhkaa
