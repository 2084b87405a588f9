/- Texts of my own, merged by program: B9 J6 In. -/
import Derived.Test.YtgalbokmgffhkaaM14
import Derived.Test.YtgalbokmgffhkaaM11
import Derived.Test.YtgalbokmgffhkaaM13
set_option linter.all false
/- Contract: alive of the statements: what every right program knows of two small sets. -/
namespace Go.Proofs.Ytgalbokmgffhkaa
open Go.Lf Go.RowKit Go.Wg

theorem rec_alloc {α : Type} {e : TypeId} {m : Nat} {enc : α → List Value} (he : ∀ x, (enc x).length = m) (P : List α) (hP : P.length ≤ 1000000) (w : World) : RecAt e m enc w.heap.size (w.alloc (.cells (recCells enc P).toArray e)) (.slice (some ⟨w.heap.size, 0, none⟩) P.length P.length) P := by
  have hl := recCells_length he P
  refine ⟨hl, .inr ⟨w.heap.size, P.length, _, rfl, Nat.le_refl _, heap_alloc_new w _, Nat.le_refl _, by unfold maxLen; omega, by simpa using hl, ?_⟩⟩
  rw [← hl]
  simp

theorem IRows.rd {base : Nat} {w : World} {v : Value} {R : List (List Int)} (h : IRows base w v R) (hR : R.length ≤ 1000000) (hr : ∀ r ∈ R, r.length ≤ 1000000) : RdRows w v R := by
  obtain ⟨vs, h1, h2, h3⟩ := h
  obtain ⟨a, cap, rfl, _⟩ := h1.len
  have hrow : ∀ i, i < R.length → ∃ u, vs[i]? = some u ∧ RdInts w u (R.getD i []) := fun i hi => by
    have e1 : vs[i]? = some (vs[i]'(by omega)) := List.getElem?_eq_getElem (by omega)
    have e2 : R[i]? = some (R.getD i []) := by rw [List.getElem?_eq_getElem hi, getD_lt _ _ _ hi]
    exact ⟨_, e1, ((h3 i _ _ e1 e2).rd iC_len).ints (hr _ (getD_mem hi))⟩
  refine ⟨a, cap, fun i => vs.getD i undef, by rw [h2], by omega, fun h0 => ?_, fun i hi => ?_⟩
  · obtain ⟨b, off, _, e, _, _⟩ := (h1.rd vE_len).at (i := 0) (x := vs[0]'(by omega)) (List.getElem?_eq_getElem (by omega))
    cases e
    refine ⟨b, off, rfl, fun i hi => ?_⟩
    obtain ⟨b', off', _, e', _, hc⟩ := (h1.rd vE_len).at (i := i) (x := vs[i]'(by omega)) (List.getElem?_eq_getElem (by omega))
    cases e'
    have := hc 0 _ rfl
    simp only [Nat.mul_one, Nat.add_zero] at this
    dsimp only
    rw [this, getD_lt _ _ _ (by omega)]
  · obtain ⟨u, q1, q2⟩ := hrow i hi
    have : vs.getD i undef = u := by rw [List.getD_eq_getElem?_getD, q1]; rfl
    dsimp only
    rw [this]
    exact q2

def l2 : List Tile := [(0, 0, 0, 0), (1, 0, 1, 0)]
def l1 : List Tile := [(0, 0, 1, 0)]
theorem lines1 : linesL l1 1 = [([0, 0, 0, 0], 0, 1, true)] := by decide
theorem ord1 : ordErr l1 1 2 = 0 := by decide
set_option maxRecDepth 100000 in
theorem count2 : countV l2 2 3 = .tuple #[.int .i64 4, .int .i64 0] := by kernel_rfl
set_option maxRecDepth 100000 in
theorem dead1 : (alvL (linesL l1 (1 : Int).toNat) (8 ^ (1 : Int).toNat) (2 : Int).toNat).any id = false := by kernel_rfl
theorem ok1 : okP 1 2 [[1, 1]] := fun i hi => by
  have : i = 0 := by simp at hi; omega
  subst this
  exact ⟨by decide, by decide⟩
theorem fin1 : finP (linesL l1 1) (deadL [[1, 1]]) := by
  have hd : ∀ c, deadL [[1, 1]] c = if c = 1 then 1 else 0 := fun c => by
    simp [deadL, deadF, code, upd]
  refine ⟨fun x hx => ?_, fun c hc x hx hxc => ?_⟩
  · rw [lines1] at hx
    simp at hx
    subst hx
    rw [hd]; decide
  · rw [lines1] at hx
    simp at hx
    subst hx
    simp at hxc
    subst hxc
    rw [hd] at hc
    exact absurd rfl hc

theorem bd32a (K : Value → Prop) : bdQ Try.prog 32 [] K = K (tlV (0, 0, 0, 0)) := by kernel_rfl
theorem bd32b (K : Value → Prop) : bdQ Try.prog 32 [(0, (.int .i64 1)), (2, (.int .i64 1))] K = K (tlV (1, 0, 1, 0)) := by kernel_rfl
theorem bd32c (K : Value → Prop) : bdQ Try.prog 32 [(2, (.int .i64 1))] K = K (tlV (0, 0, 1, 0)) := by kernel_rfl
theorem bs22b (w : World) (K : Value → World → Prop) : bsW Try.prog 22 2 [(0, tlV (0, 0, 0, 0)), (1, tlV (1, 0, 1, 0))] w K = K (.slice (some ⟨w.heap.size, 0, none⟩) 2 2) (w.alloc (.cells (recCells tlC l2).toArray 32)) := by kernel_rfl
theorem bs22a (w : World) (K : Value → World → Prop) : bsW Try.prog 22 1 [(0, tlV (0, 0, 1, 0))] w K = K (.slice (some ⟨w.heap.size, 0, none⟩) 1 1) (w.alloc (.cells (recCells tlC l1).toArray 32)) := by kernel_rfl
theorem bs30b (w : World) (K : Value → World → Prop) : bsW Try.prog 30 2 [(0, .int .i64 1), (1, .int .i64 1)] w K = K (.slice (some ⟨w.heap.size, 0, none⟩) 2 2) (w.alloc (.cells (recCells iC [1, 1]).toArray 3)) := by kernel_rfl

set_option maxRecDepth 100000 in
theorem law_alive (w : World) : Calls Try.prog 18 #[] w fun e w' => e = .returned (.bool true) ∧ Kp w w' := by
  refine lift18 ?_
  unfold S18
  rw [bd32a, bd32b, bs22b]
  have o1 := rec_alloc (e := 32) tlC_len l2 (by decide) w
  have k1 : Kp w (w.alloc (.cells (recCells tlC l2).toArray 32)) := below_alloc _
  generalize w.alloc (.cells (recCells tlC l2).toArray 32) = w1 at *
  refine r_use fok25 (count_calls 2 3 w1 (o1.rd tlC_len)) rfl ?_
  rintro _ w2 ⟨rfl, k2⟩
  refine ⟨_, rfl, ?_⟩
  rw [count2]
  simp only [r_ex2a, r_ex2b]
  rw [bd32c, bs22a]
  have o3 := rec_alloc (e := 32) tlC_len l1 (by decide) w2
  have k3 : Kp w2 (w2.alloc (.cells (recCells tlC l1).toArray 32)) := below_alloc _
  generalize hs2 : w2.heap.size = sz2 at *
  generalize w2.alloc (.cells (recCells tlC l1).toArray 32) = w3 at *
  rw [bs30b]
  have o4 := rec_alloc (e := 3) iC_len [1, 1] (by decide) w3
  have k4 : Kp w3 (w3.alloc (.cells (recCells iC [1, 1]).toArray 3)) := below_alloc _
  generalize hs3 : w3.heap.size = sz3 at *
  generalize w3.alloc (.cells (recCells iC [1, 1]).toArray 3) = w4 at *
  rw [bs23]
  have o5 := rec_one (e := 30) (enc := vE) (x := .slice (some ⟨sz3, 0, none⟩) 2 2) rfl w4
  have k5 : Kp w4 (w4.alloc (.cells #[.slice (some ⟨sz3, 0, none⟩) 2 2] 30)) := below_alloc _
  have s4 := k4.size
  generalize hs4 : w4.heap.size = sz4 at *
  generalize w4.alloc (.cells #[.slice (some ⟨sz3, 0, none⟩) 2 2] 30) = w5 at *
  have hIR : IRows sz3 w5 (.slice (some ⟨sz4, 0, none⟩) 1 1) [[1, 1]] := by
    refine ⟨[.slice (some ⟨sz3, 0, none⟩) 2 2], o5.down (by omega), rfl, fun i u r hu hr => ?_⟩
    match i with
    | 0 =>
      cases hu
      cases hr
      exact o4.kp k5
    | i + 1 => simp at hu
  have hset : RdT w5 (.slice (some ⟨sz2, 0, none⟩) 1 1) l1 := (o3.rd tlC_len).kp (Kp.trans k4 k5)
  refine r_use fok19 (refutes_calls 1 2 w5 hset (hIR.rd (by decide) (by simp))) rfl ?_
  rintro _ w6 ⟨k6, hpost⟩
  have hv : ∀ e, RefPost l1 1 2 [[1, 1]] e → e = .returned (.tuple #[.bool true, .int .i64 0]) := fun e he => by
    rcases he with ⟨h, _⟩ | ⟨_, h, _⟩ | ⟨_, _, r, rfl, hr⟩
    · exact absurd ord1 h
    · simp at h
    · have : r = true := hr.2 ⟨ok1, fin1⟩
      rw [this]
  have hv' := hv _ hpost
  subst hv'
  refine ⟨_, rfl, ?_⟩
  simp only [r_ex2a, r_ex2b]
  refine r_use fok32 (refute_calls 1 2 w6 (hset.kp k6)) rfl ?_
  rintro _ w7 ⟨k7, hpost⟩
  rcases hpost with ⟨h, _⟩ | ⟨_, h, _⟩ | ⟨_, _, ov, out, rfl, hI, kO, new, _, hperm, _, _, hnew, _⟩
  · exact absurd ord1 h
  · rw [dead1] at h; cases h
  refine ⟨_, rfl, ?_⟩
  have hlen : 1 ≤ out.length := by
    rw [hperm.length_eq, List.length_map]
    refine List.length_pos_of_mem (hnew ([0, 0, 0, 0], 0, 1, true) ?_)
    rw [show (1 : Int).toNat = 1 from rfl, lines1]
    simp
  obtain ⟨vs, p1, p2, _⟩ := hI
  obtain ⟨va, vcap, rfl, _⟩ := p1.len
  have hlen' : (1 : Int) ≤ (vs.length : Int) := by omega
  simp (disch := omega) only [r_ln, r_pick, r_pickT, r_pickF, r_condT, r_condF, r_gdTT, r_gdFF, r_gdTF, r_gdFT, r_gqTT, r_gqFF, r_gqTF, r_gqFT, r_not, r_lss, r_leq, r_gtr, r_geq, r_eql, r_neq, r_add, r_sub, r_min2, r_max2, r_min3, r_max3, r_fa, r_iaS, r_iaA, r_ex2a, r_ex2b, r_ex3a, r_ex3b, r_ex3c, r_nc, r_keepE, Nat.zero_add, Nat.add_zero, Nat.mul_one, Int.toNat_natCast, toNat_sub1, toNat_add1, decide_true, decide_false, Bool.not_true, Bool.not_false, if_true, if_false, Bool.false_eq_true, reduceCtorEq, decide_eq_true (rfl : (0 : Int) = 0), decide_eq_true (rfl : (4 : Int) = 4), decide_eq_true hlen']
  exact ⟨by first | rfl | trivial, Kp.trans (Kp.trans k1 k2) (Kp.trans (Kp.trans k3 k4) (Kp.trans k5 (Kp.trans k6 k7)))⟩

end Go.Proofs.Ytgalbokmgffhkaa

/- Contract: ways of the specification. -/
namespace Go.Proofs.Ytgalbokmgffhkaa
open Go.Lf Go.RowKit Go.Wg

def rowSoFar (full : List Int) (n s : Nat) (z : Int) : List Int := full.take s ++ List.replicate (n - s) z
theorem soFar_set {full : List Int} {n s : Nat} {z : Int} (hf : full.length = n) (hs : s < n) : (rowSoFar full n s z).set s (full.getD s 0) = rowSoFar full n (s + 1) z := by
  have h1 : (full.take s).length = s := by rw [List.length_take]; omega
  have h2 : n - s = (n - (s + 1)) + 1 := by omega
  unfold rowSoFar
  rw [List.set_append_right _ _ (by omega), h1, Nat.sub_self, h2, List.replicate_succ, List.set_cons_zero, take_succ' _ _ (by omega), List.append_assoc, getD_lt _ _ _ (by omega)]
  rfl
theorem soFar_len {full : List Int} {n s : Nat} {z : Int} (hf : full.length = n) (hs : s ≤ n) : (rowSoFar full n s z).length = n := by
  unfold rowSoFar
  rw [List.length_append, List.length_take, List.length_replicate]; omega
theorem soFar_all {full : List Int} {n : Nat} {z : Int} (hf : full.length = n) : rowSoFar full n n z = full := by
  unfold rowSoFar
  rw [List.take_of_length_le (by omega), Nat.sub_self]; simp

set_option maxRecDepth 100000 in
/-- One row of states. -/
theorem r75_2 {l : List Tile} {W H base p g : Nat} {sv lv v31 u0 : Value} {vs : List Value} {w0 w : World} {next : Value → World → Prop} (hset : IsSet l) (hW : 1 ≤ W ∧ W ≤ 4) (hH : 1 ≤ H ∧ H ≤ 4) (hall : allS l W ≤ 60000) (hr : RdT w0 sv l) (hL : RdInts w0 lv (lineL l)) (hk : Kp w0 w) (hg0 : w0.heap.size ≤ g)
    (hp : p < W * H) (S : WSt l W H base v31 vs (p + 1) g w) (hv : ∀ k, v31.ownBlock = some k → k ≠ g) (hup : vs[p]? = some u0) (hu0 : IntsAt base w u0 (List.replicate (allS l W) 0)) (hg : u0.ownBlock = some g)
    (hn : ∀ w', Kp w0 w' → WSt l W H base v31 vs (p + 1) g w' → IntsAt base w' u0 (wayL l W H p) → next (.int .i64 ((p : Int) - 1)) w') :
    S75L2 sv (.int .i64 W) (.int .i64 p) lv (.int .i64 (allS l W)) v31 next w := by
  have hfl := wayL_len l W H p
  unfold S75L2
  refine ⟨fun t14 wr => ∃ s : Nat, s ≤ allS l W ∧ t14 = .int .i64 s ∧ WSt l W H base v31 vs (p + 1) g wr ∧ IntsAt base wr u0 (rowSoFar (wayL l W H p) (allS l W) s 0) ∧ Kp w0 wr, fun t14 _ => allS l W - (intOf t14).toNat, ⟨0, by omega, rfl, S, by simpa [rowSoFar] using hu0, hk⟩, ?_⟩
  rintro _ _ wr ⟨s, hs, rfl, Sr, hur, kr⟩
  by_cases hlt : s < allS l W
  case neg =>
    have hlt' : ¬ (s : Int) < (allS l W : Int) := by omega
    have es : s = allS l W := by omega
    subst es
    rw [soFar_all hfl] at hur
    simp (disch := omega) only [r_ln, r_pick, r_pickT, r_pickF, r_condT, r_condF, r_gdTT, r_gdFF, r_gdTF, r_gdFT, r_gqTT, r_gqFF, r_gqTF, r_gqFT, r_not, r_lss, r_leq, r_gtr, r_geq, r_eql, r_neq, r_add, r_sub, r_min2, r_max2, r_min3, r_max3, r_fa, r_iaS, r_iaA, r_ex2a, r_ex2b, r_ex3a, r_ex3b, r_ex3c, r_nc, r_keepE, Nat.zero_add, Nat.add_zero, Nat.mul_one, Int.toNat_natCast, toNat_sub1, toNat_add1, decide_true, decide_false, Bool.not_true, Bool.not_false, if_true, if_false, Bool.false_eq_true, reduceCtorEq, hlt']
    rw [r_sub _ _ (by have : W * H ≤ 16 := Nat.mul_le_mul hW.2 hH.2; omega) (by have : W * H ≤ 16 := Nat.mul_le_mul hW.2 hH.2; omega)]
    exact hn wr kr Sr hur
  have hlt' : (s : Int) < (allS l W : Int) := by omega
  simp (disch := omega) only [r_ln, r_pick, r_pickT, r_pickF, r_condT, r_condF, r_gdTT, r_gdFF, r_gdTF, r_gdFT, r_gqTT, r_gqFF, r_gqTF, r_gqFT, r_not, r_lss, r_leq, r_gtr, r_geq, r_eql, r_neq, r_add, r_sub, r_min2, r_max2, r_min3, r_max3, r_fa, r_iaS, r_iaA, r_ex2a, r_ex2b, r_ex3a, r_ex3b, r_ex3c, r_nc, r_keepE, Nat.zero_add, Nat.add_zero, Nat.mul_one, Int.toNat_natCast, toNat_sub1, toNat_add1, decide_true, decide_false, Bool.not_true, Bool.not_false, if_true, if_false, Bool.false_eq_true, reduceCtorEq, decide_eq_true hlt']
  refine r75_3 hset hW hH hall hr hL kr hp hlt Sr hv hup hur (soFar_len hfl hs) hg fun w' _ S' hu' ⟨wm, km, cm⟩ => ?_
  rw [← wayL_at hlt, soFar_set hfl hlt] at hu'
  exact ⟨⟨s + 1, by omega, by go_num, S', hu', Kp.of_chg (Kp.trans kr km) cm fun q e => by omega⟩, by simp only [intOf]; omega⟩

set_option maxRecDepth 100000 in
/-- All rows, from the last one back. -/
theorem r75_1 {l : List Tile} {W H : Nat} {sv lv v31 : Value} {vs : List Value} {w0 w : World} {K : Ending → World → Prop} (hset : IsSet l) (hW : 1 ≤ W ∧ W ≤ 4) (hH : 1 ≤ H ∧ H ≤ 4) (hall : allS l W ≤ 60000) (hr : RdT w0 sv l) (hL : RdInts w0 lv (lineL l)) (hk : Kp w0 w)
    (hout : RecAt 30 1 vE w0.heap.size w v31 vs) (hlen : vs.length = W * H + 1) (hrow : ∀ u, vs[W * H]? = some u → IntsAt w0.heap.size w u (wayL l W H (W * H)))
    (hK : ∀ w', Kp w0 w' → IRows w0.heap.size w' v31 ((List.range (W * H + 1)).map (wayL l W H)) → K (.returned v31) w') :
    S75L1 sv (.int .i64 W) lv (.int .i64 (allS l W)) v31 (.int .i64 ((W * H : Nat) - 1 : Int)) K w := by
  have hWH : W * H ≤ 16 := Nat.mul_le_mul hW.2 hH.2
  unfold S75L1
  refine ⟨fun t13 wr => ∃ (m : Nat) (vs : List Value), m ≤ W * H ∧ t13 = .int .i64 ((m : Int) - 1) ∧ RecAt 30 1 vE w0.heap.size wr v31 vs ∧ vs.length = W * H + 1 ∧ (∀ q u, m ≤ q → vs[q]? = some u → IntsAt w0.heap.size wr u (wayL l W H q)) ∧ Kp w0 wr, fun t13 _ => (intOf t13 + 1).toNat, ⟨W * H, vs, Nat.le_refl _, rfl, hout, hlen, fun q u hq hu => ?_, hk⟩, ?_⟩
  · have hq' : q < vs.length := (List.getElem?_eq_some_iff.1 hu).1
    have : q = W * H := by omega
    subst this
    exact hrow u hu
  rintro _ _ wr ⟨m, vs, hm, rfl, ho, hl, hrows, kr⟩
  cases m with
  | zero =>
    have hneg : ¬ (0 : Int) ≤ ((0 : Nat) : Int) - 1 := by omega
    simp (disch := omega) only [r_geq, hneg, decide_false, r_condF]
    refine hK wr kr ⟨vs, ho, by simp [hl], fun i u r hu hri => ?_⟩
    rw [List.getElem?_map] at hri
    cases hrg : (List.range (W * H + 1))[i]? with
    | none => rw [hrg] at hri; cases hri
    | some q =>
      rw [hrg] at hri
      cases hri
      have : q = i := by
        have h1 := (List.getElem?_eq_some_iff.1 hrg).2
        simp at h1
        exact h1.symm
      subst this
      exact hrows q u (Nat.zero_le _) hu
  | succ p =>
    have hpos : (0 : Int) ≤ ((p + 1 : Nat) : Int) - 1 := by omega
    have ep : ((p + 1 : Nat) : Int) - 1 = (p : Int) := by omega
    simp (disch := omega) only [r_geq, decide_eq_true hpos, r_condT]
    rw [ep]
    refine mk30' (by omega) fun u w2 o2 k2 hgu => ?_
    obtain ⟨old, hold⟩ : ∃ x, vs[p]? = some x := ⟨_, List.getElem?_eq_getElem (by omega)⟩
    have ho2 := ho.kp k2
    obtain ⟨ua, uc, eu, _⟩ := o2.len
    obtain ⟨g, cap, e31, hbg, ⟨x0, cx⟩, fx, hset2⟩ := RecAt.set (j := 0) (p' := u) (u := u) vE_len ho2 hold (by omega) rfl
    simp only [Nat.mul_one, Nat.add_zero] at cx fx hset2
    have hpp : (p : Int).toNat = p := by omega
    have i31 : ∀ K : Value → Prop, iaS 1 v31 (.int .i64 p) K = K (.pointer (some ⟨g, p, none⟩)) := fun K => by
      rw [e31, hl, r_iaS _ _ _ _ _ _ _ (by omega) (by omega), hpp, Nat.mul_one, Nat.zero_add]
    rw [i31]
    have hst : ∀ K : World → Prop, stW Try.prog 30 (.pointer (some ⟨g, p, none⟩)) u w2 K = K (w2.setCell ⟨g, p, none⟩ u) := fun K => by rw [eu]; exact st30 cx fx
    rw [hst]
    have gown : v31.ownBlock = some g := by rw [e31]; rfl
    have gl := (ho.lt gown).2
    have hch : Chg (fun q => q = g) w2 (w2.setCell ⟨g, p, none⟩ u) := Chg.setCell _ _ rfl
    generalize w2.setCell ⟨g, p, none⟩ u = w3 at *
    have sz := kr.size
    have k3 : Kp w0 w3 := Kp.of_chg (Kp.trans kr k2) hch fun q e => by rw [e]; exact hbg
    have hS : WSt l W H w0.heap.size v31 (vs.set p u) (p + 1) wr.heap.size w3 := by
      refine ⟨hset2, by simp [hl], fun q u' hq hu' => ?_⟩
      rw [List.getElem?_set_ne (by omega)] at hu'
      have hI := hrows q u' hq hu'
      refine ⟨(hI.kp k2).chg hch fun k hk' e => ?_, fun k hk' e => ?_⟩
      · subst e
        exact rec_ne (hI.kp k2) ho2 (by decide) k hk' gown
      · have := (hI.lt hk').2
        omega
    refine r75_2 (w0 := w0) (base := w0.heap.size) hset hW hH hall hr hL k3 (g := wr.heap.size) sz (by omega) hS (fun k hk' e => by
      rw [gown] at hk'
      injection hk' with hk'
      omega) (u0 := u) (by rw [List.getElem?_set_self (by omega)]) ((o2.down sz).chg hch fun k hk' e => by rw [hgu] at hk'; injection hk' with hk'; omega) hgu fun w' kk S' hu' => ?_
    refine ⟨⟨p, vs.set p u, by omega, rfl, S'.out, S'.len, fun q u' hq hu'' => ?_, kk⟩, by simp only [intOf]; omega⟩
    by_cases hqp : q = p
    · subst hqp
      rw [List.getElem?_set_self (by omega)] at hu''
      cases hu''
      exact hu'
    · exact (S'.rows q u' (by omega) hu'').1

theorem way_last (l : List Tile) (W H : Nat) : wayL l W H (W * H) = List.replicate (allS l W) 1 := by
  refine List.ext_getElem (by simp [wayL]) fun s h1 h2 => ?_
  rw [List.getElem_replicate]
  simp only [wayL, List.getElem_map, List.getElem_range, Nat.sub_self]
  rfl

set_option maxRecDepth 100000 in
/-- The last row of states: one way each. -/
theorem r75_0 {l : List Tile} {W H g : Nat} {sv lv v31 u0 : Value} {vs : List Value} {w0 w : World} {K : Ending → World → Prop} (hset : IsSet l) (hW : 1 ≤ W ∧ W ≤ 4) (hH : 1 ≤ H ∧ H ≤ 4) (hall : allS l W ≤ 60000) (hr : RdT w0 sv l) (hL : RdInts w0 lv (lineL l)) (hk : Kp w0 w)
    (hout : RecAt 30 1 vE w0.heap.size w v31 vs) (hlen : vs.length = W * H + 1) (hup : vs[W * H]? = some u0) (hu0 : IntsAt w0.heap.size w u0 (List.replicate (allS l W) 0)) (hg : u0.ownBlock = some g)
    (hK : ∀ w', Kp w0 w' → IRows w0.heap.size w' v31 ((List.range (W * H + 1)).map (wayL l W H)) → K (.returned v31) w') :
    S75L0 sv (.int .i64 W) (.int .i64 H) lv (.int .i64 (allS l W)) v31 K w := by
  have hWH : W * H ≤ 16 := Nat.mul_le_mul hW.2 hH.2
  have hfl : (List.replicate (allS l W) (1 : Int)).length = allS l W := by simp
  unfold S75L0
  refine ⟨fun t12 wr => ∃ s : Nat, s ≤ allS l W ∧ t12 = .int .i64 s ∧ RecAt 30 1 vE w0.heap.size wr v31 vs ∧ IntsAt w0.heap.size wr u0 (rowSoFar (List.replicate (allS l W) 1) (allS l W) s 0) ∧ Kp w0 wr, fun t12 _ => allS l W - (intOf t12).toNat, ⟨0, by omega, rfl, hout, by simpa [rowSoFar] using hu0, hk⟩, ?_⟩
  rintro _ _ wr ⟨s, hs, rfl, ho, hur, kr⟩
  by_cases hlt : s < allS l W
  case neg =>
    have hlt' : ¬ (s : Int) < (allS l W : Int) := by omega
    have es : s = allS l W := by omega
    subst es
    rw [soFar_all hfl] at hur
    simp (disch := omega) only [r_lss, hlt', decide_false, r_condF]
    rw [r_mulN _ _ (by omega), r_sub _ _ (by omega) (by omega)]
    refine r75_1 hset hW hH hall hr hL kr ho hlen (fun u hu => ?_) hK
    rw [hup] at hu
    cases hu
    rw [way_last]; exact hur
  have hlt' : (s : Int) < (allS l W : Int) := by omega
  obtain ⟨ob, oo, oc, eo, _, hco⟩ := (ho.rd vE_len).at hup
  have co : wr.cell? ⟨ob, oo + W * H, none⟩ = some u0 := by
    have := hco 0 _ rfl
    simpa using this
  have hsl := soFar_len (z := 0) hfl hs
  obtain ⟨g', cap, eu, hbg, hcell, hfr, hput⟩ := IntsAt.put hur (q := s) (by omega) 1
  have hii : ((W * H : Nat) : Int).toNat = W * H := by omega
  have hss : (s : Int).toNat = s := by omega
  rw [eu] at co
  have gown : u0.ownBlock = some g' := by rw [eu]; rfl
  simp (disch := omega) only [r_lss, decide_eq_true hlt', r_condT]
  rw [r_mulN _ _ (by omega)]
  have i31 : ∀ K : Value → Prop, iaS 1 v31 (.int .i64 (W * H : Nat)) K = K (.pointer (some ⟨ob, oo + W * H, none⟩)) := fun K => by
    rw [eo, r_iaS _ _ _ _ _ _ _ (by omega) (by omega), hii, Nat.mul_one]
  rw [i31, r_ld co]
  simp (disch := omega) only [r_iaS, hss, Nat.mul_one, Nat.zero_add]
  rw [st3 hcell hfr]
  have hch : Chg (fun q => q = g') wr (wr.setCell ⟨g', s, none⟩ (.int .i64 1)) := Chg.setCell _ _ rfl
  rw [r_add _ _ (by omega) (by omega)]
  have h1 : (List.replicate (allS l W) (1 : Int)).getD s 0 = 1 := by rw [getD_lt _ _ _ (by simpa using hlt), List.getElem_replicate]
  have hsf := soFar_set (z := 0) hfl hlt
  rw [h1] at hsf
  rw [hsf] at hput
  refine ⟨⟨s + 1, by omega, by go_num, ho.chg hch fun k hk' e => ?_, hput, Kp.of_chg kr hch fun q e => by rw [e]; exact hbg⟩, by simp only [intOf]; omega⟩
  subst e
  exact rec_ne hur ho (by decide) k gown hk'

set_option maxRecDepth 100000 in
theorem ways_calls {sv : Value} {l : List Tile} {W H : Nat} (w : World) (hr : RdT w sv l) (hset : IsSet l) (hW : 1 ≤ W ∧ W ≤ 4) (hH : 1 ≤ H ∧ H ≤ 4) (hall : allS l W ≤ 60000) :
    Calls Try.prog 75 #[sv, .int .i64 W, .int .i64 H] w fun e w' => ∃ v, e = .returned v ∧ Kp w w' ∧ IRows w.heap.size w' v ((List.range (W * H + 1)).map (wayL l W H)) := by
  have hWH : W * H ≤ 16 := Nat.mul_le_mul hW.2 hH.2
  have hlm := hset.most
  have hn := line_pos hset
  refine lift75 ?_
  unfold S75
  refine r_use fok70 (lines_calls w hr (by omega)) rfl ?_
  rintro _ w1 ⟨lv, rfl, o1, k1⟩
  refine ⟨_, rfl, ?_⟩
  obtain ⟨la, lc, elv, _⟩ := o1.len
  have hL : RdInts w1 lv (lineL l) := Rd.ints (o1.rd iC_len) (by have := line_len l; omega)
  have lnl : ∀ K : Value → Prop, ln1 lv K = K (.int .i64 (lineL l).length) := fun K => by rw [elv]; rfl
  rw [lnl]
  have hpw : (lineL l).length ^ W ≤ 60000 := by unfold allS at hall; omega
  refine r_use fok69 (power_calls (n := (lineL l).length) (k := W) w1 (by omega) hn (by omega)) rfl ?_
  rintro _ _ ⟨rfl, rfl⟩
  refine ⟨_, rfl, ?_⟩
  rw [r_mul8 _ (by omega), r_mulN _ _ (by omega), r_add _ _ (by omega) (by omega)]
  have e1 : ((W * H : Nat) : Int) + 1 = ((W * H + 1 : Nat) : Int) := by omega
  rw [e1]
  refine mk23 (by omega) fun v31 w2 o2 k2 => ?_
  rw [r_mulN _ _ (by omega)]
  change mkW Try.prog 30 (.int .i64 (allS l W : Nat)) (.int .i64 (allS l W : Nat)) w2 _
  refine mk30' (by omega) fun u w3 o3 k3 hgu => ?_
  have hlen : (List.replicate (W * H + 1) nilS).length = W * H + 1 := by simp
  obtain ⟨old, hold⟩ : ∃ x, (List.replicate (W * H + 1) nilS)[W * H]? = some x := ⟨_, List.getElem?_eq_getElem (by simp)⟩
  have o23 := o2.kp k3
  obtain ⟨ua, uc, eu, _⟩ := o3.len
  obtain ⟨g, cap, e31, hbg, ⟨x0, cx⟩, fx, hset2⟩ := RecAt.set (j := 0) (p' := u) (u := u) vE_len o23 hold (by omega) rfl
  simp only [Nat.mul_one, Nat.add_zero] at cx fx hset2
  have hii : ((W * H : Nat) : Int).toNat = W * H := by omega
  have i31 : ∀ K : Value → Prop, iaS 1 v31 (.int .i64 (W * H : Nat)) K = K (.pointer (some ⟨g, W * H, none⟩)) := fun K => by
    rw [e31, hlen, r_iaS _ _ _ _ _ _ _ (by omega) (by omega), hii, Nat.mul_one, Nat.zero_add]
  rw [i31]
  have hst : ∀ K : World → Prop, stW Try.prog 30 (.pointer (some ⟨g, W * H, none⟩)) u w3 K = K (w3.setCell ⟨g, W * H, none⟩ u) := fun K => by rw [eu]; exact st30 cx fx
  rw [hst]
  have gown : v31.ownBlock = some g := by rw [e31]; rfl
  have gl := (o2.lt gown).2
  have hch : Chg (fun q => q = g) w3 (w3.setCell ⟨g, W * H, none⟩ u) := Chg.setCell _ _ rfl
  generalize w3.setCell ⟨g, W * H, none⟩ u = w4 at *
  have k13 := Kp.trans k2 k3
  have k4 : Kp w1 w4 := Kp.of_chg k13 hch fun q e => by rw [e]; exact hbg
  refine r75_0 (w0 := w1) hset hW hH hall (hr.kp k1) hL k4 hset2 (by simp) (by rw [List.getElem?_set_self (by simp)]) ((o3.down k2.size).chg hch fun k hk' e => by rw [hgu] at hk'; injection hk' with hk'; omega) hgu fun w' kk ho => ⟨_, rfl, Kp.trans k1 kk, ?_⟩
  exact ho.down k1.size

end Go.Proofs.Ytgalbokmgffhkaa

/- No lists. -/
namespace Go.Proofs.Ytgalbokmgffhkaa
open Go.Lf Go.RowKit Go.Wg

theorem IRows.nil {base : Nat} {w : World} : IRows base w nilS [] := ⟨[], RecAt.nil, rfl, by simp⟩

end Go.Proofs.Ytgalbokmgffhkaa
