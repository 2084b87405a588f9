/- Texts of my own, merged by program: Ls Tt J10. -/
import Derived.Test.YtgalbokmgffhkaaM10
import Derived.Test.YtgalbokmgffhkaaM16
import Derived.Test.YtgalbokmgffhkaaM06
set_option linter.all false
/- Contract: lists. -/
namespace Go.Proofs.Ytgalbokmgffhkaa
open Go.Lf Go.RowKit Go.Wg

set_option maxRecDepth 100000 in
/-- lists: the same lists? -/
theorem lists_calls {va vb : Value} {la lb : List (List Int)} (w : World) (ha : RdRows w va la) (hb : RdRows w vb lb) : Calls Try.prog 29 #[va, vb] w fun e w' => e = .returned (.bool (decide (la = lb))) ∧ Kp w w' := by
  have ha0 := ha
  have hb0 := hb
  obtain ⟨aa, ca, rfl, ha1⟩ := ha.len
  obtain ⟨ab, cb, rfl, hb1⟩ := hb.len
  refine lift29 ?_
  unfold S29
  by_cases hlen : (la.length : Int) = (lb.length : Int)
  case neg =>
    simp (disch := omega) only [r_ln, r_pick, r_pickT, r_pickF, r_condT, r_condF, r_gdTT, r_gdFF, r_gdTF, r_gdFT, r_gqTT, r_gqFF, r_gqTF, r_gqFT, r_not, r_lss, r_leq, r_gtr, r_geq, r_eql, r_neq, r_add, r_sub, r_min2, r_max2, r_min3, r_max3, r_fa, r_iaS, r_iaA, r_ex2a, r_ex2b, r_ex3a, r_ex3b, r_ex3c, r_nc, r_keepE, Nat.zero_add, Nat.add_zero, Nat.mul_one, Int.toNat_natCast, toNat_sub1, toNat_add1, decide_true, decide_false, Bool.not_true, Bool.not_false, if_true, if_false, Bool.false_eq_true, reduceCtorEq, hlen]
    exact ⟨ret_bool (decide_eq_false (fun e => hlen (by rw [e]))).symm, Kp.refl _⟩
  simp (disch := omega) only [r_ln, r_pick, r_pickT, r_pickF, r_condT, r_condF, r_gdTT, r_gdFF, r_gdTF, r_gdFT, r_gqTT, r_gqFF, r_gqTF, r_gqFT, r_not, r_lss, r_leq, r_gtr, r_geq, r_eql, r_neq, r_add, r_sub, r_min2, r_max2, r_min3, r_max3, r_fa, r_iaS, r_iaA, r_ex2a, r_ex2b, r_ex3a, r_ex3b, r_ex3c, r_nc, r_keepE, Nat.zero_add, Nat.add_zero, Nat.mul_one, Int.toNat_natCast, toNat_sub1, toNat_add1, decide_true, decide_false, Bool.not_true, Bool.not_false, if_true, if_false, Bool.false_eq_true, reduceCtorEq, decide_eq_true hlen]
  unfold S29L0
  refine ⟨fun t5 wr => ∃ i : Nat, i ≤ la.length ∧ t5 = .int .i64 i ∧ la.take i = lb.take i ∧ Kp w wr, fun t5 _ => la.length - (intOf t5).toNat, ⟨0, by omega, rfl, by simp, Kp.refl _⟩, ?_⟩
  rintro _ _ wr ⟨i, hi, rfl, he, hk⟩
  by_cases hlt : i < la.length
  case neg =>
    have hlt' : ¬ (i : Int) < (la.length : Int) := by omega
    rw [List.take_of_length_le (by omega), List.take_of_length_le (by omega)] at he
    simp (disch := omega) only [r_ln, r_pick, r_pickT, r_pickF, r_condT, r_condF, r_gdTT, r_gdFF, r_gdTF, r_gdFT, r_gqTT, r_gqFF, r_gqTF, r_gqFT, r_not, r_lss, r_leq, r_gtr, r_geq, r_eql, r_neq, r_add, r_sub, r_min2, r_max2, r_min3, r_max3, r_fa, r_iaS, r_iaA, r_ex2a, r_ex2b, r_ex3a, r_ex3b, r_ex3c, r_nc, r_keepE, Nat.zero_add, Nat.add_zero, Nat.mul_one, Int.toNat_natCast, toNat_sub1, toNat_add1, decide_true, decide_false, Bool.not_true, Bool.not_false, if_true, if_false, Bool.false_eq_true, reduceCtorEq, hlt']
    exact ⟨ret_bool (decide_eq_true he).symm, hk⟩
  have hlt' : (i : Int) < (la.length : Int) := by omega
  have hltb : i < lb.length := by omega
  simp (disch := omega) only [r_ln, r_pick, r_pickT, r_pickF, r_condT, r_condF, r_gdTT, r_gdFF, r_gdTF, r_gdFT, r_gqTT, r_gqFF, r_gqTF, r_gqFT, r_not, r_lss, r_leq, r_gtr, r_geq, r_eql, r_neq, r_add, r_sub, r_min2, r_max2, r_min3, r_max3, r_fa, r_iaS, r_iaA, r_ex2a, r_ex2b, r_ex3a, r_ex3b, r_ex3c, r_nc, r_keepE, Nat.zero_add, Nat.add_zero, Nat.mul_one, Int.toNat_natCast, toNat_sub1, toNat_add1, decide_true, decide_false, Bool.not_true, Bool.not_false, if_true, if_false, Bool.false_eq_true, reduceCtorEq, decide_eq_true hlt']
  refine r_drew fun w2 k2 _ => ?_
  have k02 := Kp.trans hk k2
  obtain ⟨b1, o1, c1, u1, e1, hc1, r1⟩ := (ha0.below k02).row hlt
  obtain ⟨b2, o2, c2, u2, e2, hc2, r2⟩ := (hb0.below k02).row hltb
  cases e1
  cases e2
  have hi' : (i : Int).toNat = i := by omega
  simp (disch := omega) only [r_ln, r_pick, r_pickT, r_pickF, r_condT, r_condF, r_gdTT, r_gdFF, r_gdTF, r_gdFT, r_gqTT, r_gqFF, r_gqTF, r_gqFT, r_not, r_lss, r_leq, r_gtr, r_geq, r_eql, r_neq, r_add, r_sub, r_min2, r_max2, r_min3, r_max3, r_fa, r_iaS, r_iaA, r_ex2a, r_ex2b, r_ex3a, r_ex3b, r_ex3c, r_nc, r_keepE, Nat.zero_add, Nat.add_zero, Nat.mul_one, Int.toNat_natCast, toNat_sub1, toNat_add1, decide_true, decide_false, Bool.not_true, Bool.not_false, if_true, if_false, Bool.false_eq_true, reduceCtorEq, hi', r_ld hc1, r_ld hc2]
  refine r_use fok43 (numbers_calls w2 r1 r2) rfl ?_
  rintro _ w3 ⟨rfl, k3⟩
  refine ⟨_, rfl, ?_⟩
  rw [getD_lt _ _ _ hlt, getD_lt _ _ _ hltb]
  by_cases hx : la[i] = lb[i]
  · simp (disch := omega) only [r_ln, r_pick, r_pickT, r_pickF, r_condT, r_condF, r_gdTT, r_gdFF, r_gdTF, r_gdFT, r_gqTT, r_gqFF, r_gqTF, r_gqFT, r_not, r_lss, r_leq, r_gtr, r_geq, r_eql, r_neq, r_add, r_sub, r_min2, r_max2, r_min3, r_max3, r_fa, r_iaS, r_iaA, r_ex2a, r_ex2b, r_ex3a, r_ex3b, r_ex3c, r_nc, r_keepE, Nat.zero_add, Nat.add_zero, Nat.mul_one, Int.toNat_natCast, toNat_sub1, toNat_add1, decide_true, decide_false, Bool.not_true, Bool.not_false, if_true, if_false, Bool.false_eq_true, reduceCtorEq, decide_eq_true hx]
    refine ⟨⟨i + 1, by omega, by go_num, ?_, Kp.trans k02 k3⟩, by simp only [intOf]; omega⟩
    rw [take_succ' _ _ hlt, take_succ' _ _ hltb, he, hx]
  · simp (disch := omega) only [r_ln, r_pick, r_pickT, r_pickF, r_condT, r_condF, r_gdTT, r_gdFF, r_gdTF, r_gdFT, r_gqTT, r_gqFF, r_gqTF, r_gqFT, r_not, r_lss, r_leq, r_gtr, r_geq, r_eql, r_neq, r_add, r_sub, r_min2, r_max2, r_min3, r_max3, r_fa, r_iaS, r_iaA, r_ex2a, r_ex2b, r_ex3a, r_ex3b, r_ex3c, r_nc, r_keepE, Nat.zero_add, Nat.add_zero, Nat.mul_one, Int.toNat_natCast, toNat_sub1, toNat_add1, decide_true, decide_false, Bool.not_true, Bool.not_false, if_true, if_false, Bool.false_eq_true, reduceCtorEq, hx]
    exact ⟨ret_bool (decide_eq_false (fun e => hx (by subst e; rfl))).symm, Kp.trans k02 k3⟩


end Go.Proofs.Ytgalbokmgffhkaa

/- Tiles of one's own. -/
namespace Go.Proofs.Ytgalbokmgffhkaa
open Go.Lf Go.RowKit Go.Wg

abbrev TlAt (base : Nat) (w : World) (v : Value) (l : List Tile) : Prop := RecAt 32 4 tlC base w v l
theorem slt22 : SlT 22 32 4 32 := SlT.mk' (z := tlV (0, 0, 0, 0)) (by kernel_rfl) (by kernel_rfl) rfl (by decide)
theorem bs22 (a b c d : Int) (w : World) (K : Value → World → Prop) : bsW Try.prog 22 1 [(0, tlV (a, b, c, d))] w K = K (.slice (some ⟨w.heap.size, 0, none⟩) 1 1) (w.alloc (.cells (Value.agg #[.int .i64 a, .int .i64 b, .int .i64 c, .int .i64 d]).cells 32)) := by kernel_rfl
theorem tlC_one (t : Tile) : ∀ u ∈ tlC t, u.oneCell' = true := by
  intro u hu
  simp [tlC] at hu
  rcases hu with rfl | rfl | rfl | rfl <;> rfl


end Go.Proofs.Ytgalbokmgffhkaa

/- Contract: Fill of the specification; WangCounts. -/
namespace Go.Proofs.Ytgalbokmgffhkaa
open Go.Lf Go.RowKit Go.Wg

theorem flat_len {W : Nat} : ∀ {R : List (List Nat)}, (∀ r ∈ R, r.length = W) → R.flatten.length = R.length * W
  | [], _ => by simp
  | r :: R, h => by
    rw [List.flatten_cons, List.length_append, flat_len fun x hx => h x (by simp [hx]), h r (by simp), List.length_cons, Nat.add_mul, Nat.one_mul]
    omega

set_option maxRecDepth 100000 in
set_option maxHeartbeats 800000 in
theorem r28_0 {l : List Tile} {W H : Nat} {sv lv wv : Value} {w0 : World} {K : Ending → World → Prop} (hset : IsSet l) (hW : 1 ≤ W ∧ W ≤ 4) (hH : 1 ≤ H ∧ H ≤ 4) (hr : RdT w0 sv l) (hL : RdInts w0 lv (lineL l)) (hwv : RdRows w0 wv (waysLL l W H)) (hpos : 0 < Wq l W H (W * H) 0)
    (hK : ∀ (v : Value) (R : List (List Nat)) (w' : World), Kp w0 w' → R.flatten = gS l W H (W * H) 0 → (∀ r ∈ R, r.length = W) → IRows w0.heap.size w' v (R.map intsR) → K (.returned (.tuple #[v, .int .i64 0])) w') :
    S28L0 sv (.int .i64 W) (.int .i64 H) wv lv K w0 := by
  have hWH : W * H ≤ 16 := Nat.mul_le_mul hW.2 hH.2
  have hal : 0 < allS l W := by
    have := Nat.pow_pos (n := W) (line_pos hset)
    unfold allS; omega
  unfold S28L0
  refine ⟨fun t11 t12 t13 t14 wr => ∃ (p s : Nat) (R : List (List Nat)) (row taken : List Nat), p ≤ W * H ∧ t14 = .int .i64 p ∧ t11 = .int .i64 s ∧ s < allS l W ∧ 0 < Wq l W H (W * H - p) s ∧ gS l W H (W * H) 0 = taken ++ gS l W H (W * H - p) s ∧ taken.length = p ∧ R.flatten ++ row = taken ∧ (∀ r ∈ R, r.length = W) ∧ row.length < W ∧ OSt w0.heap.size wr t12 t13 R row ∧ Kp w0 wr ∧ w0.heap.size ≤ wr.heap.size,
    fun _ _ _ t14 _ => W * H - (intOf t14).toNat, ⟨0, 0, [], [], [], by omega, rfl, rfl, hal, hpos, rfl, rfl, rfl, by simp, by show 0 < W; omega, ⟨⟨[], RecAt.nil, rfl, by simp⟩, RecAt.nil⟩, Kp.refl _, Nat.le_refl _⟩, ?_⟩
  rintro _ _ t12 t13 _ wr ⟨p, s, R, row, taken, hp, rfl, rfl, hs, hq, hfull, htl, hflat, hRl, hrl, S, kr, sz⟩
  rw [r_mulN _ _ (by omega)]
  have hfl := flat_len hRl
  have htot : R.length * W + row.length = p := by rw [← hfl, ← List.length_append, hflat, htl]
  by_cases hlt : p < W * H
  case neg =>
    have hlt' : ¬ (p : Int) < ((W * H : Nat) : Int) := by omega
    have hp' : p = W * H := by omega
    subst hp'
    have hrow : row.length = 0 := by
      have h1 : (R.length * W + row.length) % W = row.length := by rw [Nat.add_comm, Nat.add_mul_mod_self_right, Nat.mod_eq_of_lt hrl]
      rw [htot, Nat.mul_mod_right] at h1
      omega
    have hr0 : row = [] := List.length_eq_zero_iff.1 hrow
    subst hr0
    rw [List.append_nil] at hflat
    rw [Nat.sub_self] at hfull
    simp (disch := omega) only [r_lss, hlt', decide_false, r_condF]
    refine hK _ R wr kr ?_ hRl S.irows
    rw [hfull, hflat]; simp [gS]
  have hlt' : (p : Int) < ((W * H : Nat) : Int) := by omega
  have hq1 : W * H - p = (W * H - (p + 1)) + 1 := by omega
  have hqp : W * H - (W * H - (p + 1) + 1) = p := by omega
  simp (disch := omega) only [r_lss, decide_eq_true hlt', r_condT]
  have hRle : R.length ≤ 16 := by
    have : R.length * 1 ≤ R.length * W := Nat.mul_le_mul_left _ hW.1
    omega
  refine r_join2 (fun a c w' => ∃ i, i < l.length ∧ a = .int .i64 (nxtS l W p s i) ∧ (List.range l.length).find? (okB l W H (W * H - (p + 1)) s) = some i ∧ OSt w0.heap.size w' t12 c R (row ++ [i]) ∧ Kp w0 w' ∧ w0.heap.size ≤ w'.heap.size) ?_ fun k3 hk3 => ?_
  · rintro _ c w2 ⟨i, hil, rfl, hf, S2, k2, sz2⟩
    have hok := List.find?_some hf
    have htm : tl l i ∈ l := by unfold tl; exact getD_mem hil
    rw [okB, hqp] at hok
    obtain ⟨s', hput, hpos'⟩ : ∃ s', putM l W p s (tl l i) = some s' ∧ 0 < Wq l W H (W * H - (p + 1)) s' := by
      cases hm : putM l W p s (tl l i) with
      | none => rw [hm] at hok; cases hok
      | some s' =>
        rw [hm] at hok
        exact ⟨s', rfl, of_decide_eq_true hok⟩
    have hst : nxtS l W p s i = s' := by rw [nxtS, hput]; rfl
    have hs' := put_lt hset htm hW.1 hs hput
    have hg : gS l W H (W * H - p) s = i :: gS l W H (W * H - (p + 1)) s' := by
      rw [hq1, gS, hf]
      dsimp only
      rw [hqp, hst]
    rw [hst]
    have S2r := S2.row
    obtain ⟨ca, cc, ec, _⟩ := S2r.len
    have hil2 : (intsR (row ++ [i])).length = row.length + 1 := by simp [intsR]
    rw [hil2] at ec
    have lnc : ∀ K : Value → Prop, ln1 c K = K (.int .i64 (row.length + 1 : Nat)) := fun K => by rw [ec]; rfl
    rw [lnc]
    simp only [r_eql]
    refine r_join2 (fun a b w' => ∃ (R' : List (List Nat)) (row' : List Nat), OSt w0.heap.size w' a b R' row' ∧ R'.flatten ++ row' = taken ++ [i] ∧ (∀ r ∈ R', r.length = W) ∧ row'.length < W ∧ Kp w0 w' ∧ w0.heap.size ≤ w'.heap.size) ?_ fun k4 hk4 => ?_
    · rintro a b w3 ⟨R', row', S3, e3, l3, m3, k3', sz3⟩
      rw [r_add _ _ (by omega) (by omega)]
      refine ⟨⟨p + 1, s', R', row', taken ++ [i], by omega, by go_num, rfl, hs', hpos', ?_, by simp [htl], e3, l3, m3, S3, k3', sz3⟩, by simp only [intOf]; omega⟩
      rw [hfull, hg]; simp
    by_cases hfin : row.length + 1 = W
    · have hfin' : ((row.length + 1 : Nat) : Int) = (W : Int) := by omega
      simp only [decide_eq_true hfin', r_condT]
      refine S2.flush (by omega) sz2 fun v' w' S' hsz hkk => ?_
      refine hk4 _ _ _ ⟨R ++ [row ++ [i]], [], S', ?_, fun r hr => ?_, by show 0 < W; omega, hkk w0 (Nat.le_refl _) k2, by omega⟩
      · rw [← hflat]; simp
      · rcases List.mem_append.1 hr with h | h
        · exact hRl r h
        · simp at h; rw [h]; simp [hfin]
    · have hfin' : ¬ ((row.length + 1 : Nat) : Int) = (W : Int) := by omega
      simp only [hfin', decide_false, r_condF]
      exact hk4 _ _ _ ⟨R, row ++ [i], S2, by rw [← hflat]; simp, hRl, by simp; omega, k2, sz2⟩
  · exact r28_1 hset hW hH hr hL hwv kr (Nat.le_refl _) sz hlt hs hq S (by omega) fun i v' w' hil hf S' k' sz' => hk3 _ _ _ ⟨i, hil, rfl, hf, S', k', sz'⟩

set_option maxRecDepth 100000 in
theorem reffill_calls {v : Value} {l : List Tile} (a b : Int) (w : World) (hr : RdT w v l) : Calls Try.prog 28 #[v, .int .i64 a, .int .i64 b] w fun e w' => Kp w w' ∧ FillPost l a b w.heap.size w' e := by
  refine lift28 ?_
  unfold S28
  refine r_use fok23 (order_calls a b w hr) rfl ?_
  rintro _ w1 ⟨rfl, k1⟩
  refine ⟨_, rfl, ?_⟩
  have h20 : ¬ ((2 : Int) = 0) := by decide
  rcases ordErr_cases l a b with he | he
  rotate_left
  · rw [he]
    simp (disch := omega) only [r_ln, r_pick, r_pickT, r_pickF, r_condT, r_condF, r_gdTT, r_gdFF, r_gdTF, r_gdFT, r_gqTT, r_gqFF, r_gqTF, r_gqFT, r_not, r_lss, r_leq, r_gtr, r_geq, r_eql, r_neq, r_add, r_sub, r_min2, r_max2, r_min3, r_max3, r_fa, r_iaS, r_iaA, r_ex2a, r_ex2b, r_ex3a, r_ex3b, r_ex3c, r_nc, r_keepE, Nat.zero_add, Nat.add_zero, Nat.mul_one, Int.toNat_natCast, toNat_sub1, toNat_add1, decide_true, decide_false, Bool.not_true, Bool.not_false, if_true, if_false, Bool.false_eq_true, reduceCtorEq, h20]
    exact ⟨k1, .inl ⟨by omega, rfl⟩⟩
  obtain ⟨hs, W, H, rfl, rfl, hW, hH⟩ := ord_ok he
  have hWH : W * H ≤ 16 := Nat.mul_le_mul hW.2 hH.2
  have hal := allS_le (l := l) hW.2
  have hlm := hs.most
  have hpos : 0 < allS l W := by
    have := Nat.pow_pos (n := W) (line_pos hs)
    unfold allS; omega
  rw [he]
  simp (disch := omega) only [r_ln, r_pick, r_pickT, r_pickF, r_condT, r_condF, r_gdTT, r_gdFF, r_gdTF, r_gdFT, r_gqTT, r_gqFF, r_gqTF, r_gqFT, r_not, r_lss, r_leq, r_gtr, r_geq, r_eql, r_neq, r_add, r_sub, r_min2, r_max2, r_min3, r_max3, r_fa, r_iaS, r_iaA, r_ex2a, r_ex2b, r_ex3a, r_ex3b, r_ex3c, r_nc, r_keepE, Nat.zero_add, Nat.add_zero, Nat.mul_one, Int.toNat_natCast, toNat_sub1, toNat_add1, decide_true, decide_false, Bool.not_true, Bool.not_false, if_true, if_false, Bool.false_eq_true, reduceCtorEq, decide_eq_true (rfl : (0 : Int) = 0)]
  refine r_use fok75 (ways_calls w1 (hr.kp k1) hs hW hH (by omega)) rfl ?_
  rintro _ w2 ⟨v2, rfl, k2, o2⟩
  refine ⟨_, rfl, ?_⟩
  have hrows : RdRows w2 v2 (waysLL l W H) := o2.rd (by rw [waysLL_len]; omega) fun r h => by rw [waysLL_row r h]; omega
  have k02 := Kp.trans k1 k2
  refine ways_read (p := 0) (s := 0) hrows (by omega) hpos hWH hal _ ?_
  rw [Nat.sub_zero]
  obtain ⟨hnone, hsome⟩ := fill_all hs (w := W) (h := H) (by omega) (by omega)
  have hc0 : capI (Wq l W H (W * H) 0) = 0 ↔ Wq l W H (W * H) 0 = 0 := by unfold capI; omega
  by_cases g : Wq l W H (W * H) 0 = 0
  · simp (disch := omega) only [r_ln, r_pick, r_pickT, r_pickF, r_condT, r_condF, r_gdTT, r_gdFF, r_gdTF, r_gdFT, r_gqTT, r_gqFF, r_gqTF, r_gqFT, r_not, r_lss, r_leq, r_gtr, r_geq, r_eql, r_neq, r_add, r_sub, r_min2, r_max2, r_min3, r_max3, r_fa, r_iaS, r_iaA, r_ex2a, r_ex2b, r_ex3a, r_ex3b, r_ex3c, r_nc, r_keepE, Nat.zero_add, Nat.add_zero, Nat.mul_one, Int.toNat_natCast, toNat_sub1, toNat_add1, decide_true, decide_false, Bool.not_true, Bool.not_false, if_true, if_false, Bool.false_eq_true, reduceCtorEq, decide_eq_true (hc0.2 g)]
    exact ⟨k02, .inr (.inl ⟨he, by simpa using hnone.1 g, rfl⟩)⟩
  have g' : ¬ capI (Wq l W H (W * H) 0) = 0 := fun h => g (hc0.1 h)
  simp (disch := omega) only [r_ln, r_pick, r_pickT, r_pickF, r_condT, r_condF, r_gdTT, r_gdFF, r_gdTF, r_gdFT, r_gqTT, r_gqFF, r_gqTF, r_gqFT, r_not, r_lss, r_leq, r_gtr, r_geq, r_eql, r_neq, r_add, r_sub, r_min2, r_max2, r_min3, r_max3, r_fa, r_iaS, r_iaA, r_ex2a, r_ex2b, r_ex3a, r_ex3b, r_ex3c, r_nc, r_keepE, Nat.zero_add, Nat.add_zero, Nat.mul_one, Int.toNat_natCast, toNat_sub1, toNat_add1, decide_true, decide_false, Bool.not_true, Bool.not_false, if_true, if_false, Bool.false_eq_true, reduceCtorEq, g']
  refine r_use fok70 (lines_calls w2 (hr.kp k02) (by omega)) rfl ?_
  rintro _ w3 ⟨lv, rfl, o3, k3⟩
  refine ⟨_, rfl, ?_⟩
  have hL : RdInts w3 lv (lineL l) := Rd.ints (o3.rd iC_len) (by have := line_len l; omega)
  have k03 := Kp.trans k02 k3
  refine r28_0 hs hW hH (hr.kp k03) hL (hrows.below k3) (by omega) fun v' R w' kk hfl hRl ho => ⟨Kp.trans k03 kk, .inr (.inr ⟨he, ?_⟩)⟩
  cases hB : fillM l W H (-1) with
  | none => exact absurd (hnone.2 hB) g
  | some B =>
    obtain ⟨b1, b2, b3⟩ := hsome B hB
    have : R = B := flat_inj (by omega) hRl b3 (by rw [hfl, b1])
    subst this
    exact ⟨v', R, rfl, by simpa using hB, ho.down k03.size⟩

def fillE (l : List Tile) (a b : Int) : Int := if ordErr l a b = 0 then (if (fillM l a.toNat b.toNat (-1)).isNone then 10 else 0) else 2
def fillR (l : List Tile) (a b : Int) : List (List Int) := if ordErr l a b = 0 then ((fillM l a.toNat b.toNat (-1)).getD []).map intsR else []
theorem FillPost.form {l : List Tile} {a b : Int} {base : Nat} {w : World} {e : Ending} (h : FillPost l a b base w e) : ∃ v, e = .returned (.tuple #[v, .int .i64 (fillE l a b)]) ∧ IRows base w v (fillR l a b) := by
  rcases h with ⟨h, rfl⟩ | ⟨h1, h2, rfl⟩ | ⟨h1, v, B, rfl, h2, ho⟩
  · refine ⟨nilS, by rw [fillE, if_neg h], ?_⟩
    rw [fillR, if_neg h]; exact IRows.nil
  · refine ⟨nilS, by rw [fillE, if_pos h1, h2]; rfl, ?_⟩
    rw [fillR, if_pos h1, h2]; exact IRows.nil
  · refine ⟨v, by rw [fillE, if_pos h1, h2]; rfl, ?_⟩
    rw [fillR, if_pos h1, h2]; exact ho
theorem fillR_small (l : List Tile) (a b : Int) : (fillR l a b).length ≤ 4 ∧ ∀ r ∈ fillR l a b, r.length ≤ 4 := by
  unfold fillR
  by_cases he : ordErr l a b = 0
  · rw [if_pos he]
    obtain ⟨hs, W, H, rfl, rfl, hW, hH⟩ := ord_ok he
    obtain ⟨_, hsome⟩ := fill_all hs (w := W) (h := H) (by omega) (by omega)
    simp only [Int.toNat_natCast]
    cases hB : fillM l W H (-1) with
    | none => simp
    | some B =>
      obtain ⟨b1, b2, b3⟩ := hsome B hB
      simp only [Option.getD_some, List.length_map]
      refine ⟨by omega, fun r hr => ?_⟩
      obtain ⟨q, hq, rfl⟩ := List.mem_map.1 hr
      have := b3 q hq
      simp [intsR]; omega
  · rw [if_neg he]; simp

set_option maxRecDepth 100000 in
theorem states_calls {v : Value} {l : List Tile} {W : Nat} (w : World) (hr : RdT w v l) (hs : IsSet l) (hW : W ≤ 4) : Calls Try.prog 24 #[v, .int .i64 W] w fun e w' => e = .returned (.int .i64 (allS l W : Nat)) ∧ Kp w w' := by
  have hal := allS_le (l := l) hW
  have hlm := hs.most
  refine lift24 ?_
  unfold S24
  refine r_use fok70 (lines_calls w hr (by omega)) rfl ?_
  rintro _ w1 ⟨lv, rfl, o1, k1⟩
  refine ⟨_, rfl, ?_⟩
  obtain ⟨la, lc, elv, _⟩ := o1.len
  have lnl : ∀ K : Value → Prop, ln1 lv K = K (.int .i64 (lineL l).length) := fun K => by rw [elv]; rfl
  rw [lnl]
  have hpw : (lineL l).length ^ W ≤ 32768 := by unfold allS at hal; omega
  refine r_use fok69 (power_calls (n := (lineL l).length) (k := W) w1 (by omega) (line_pos hs) (by omega)) rfl ?_
  rintro _ _ ⟨rfl, rfl⟩
  refine ⟨_, rfl, ?_⟩
  rw [r_mul8 _ (by omega)]
  exact ⟨rfl, k1⟩

theorem bs22_0 (w : World) (K : Value → World → Prop) : bsW Try.prog 22 0 [] w K = K (.slice (some ⟨w.heap.size, 0, none⟩) 0 0) (w.alloc (.cells #[] 32)) := by kernel_rfl
set_option maxRecDepth 100000 in
/-- append([]Wang{}, l...): a copy. -/
theorem r_copyT {w : World} {v : Value} {l : List Tile} {K : Value → World → Prop} (hr : RdT w v l) (hl : l.length ≤ 1000000)
    (hk : ∀ v' w', TlAt w.heap.size w' v' l → Kp w w' → K v' w') :
    bsW Try.prog 22 0 [] w fun s w => semW Try.prog (apS [22, 22] 22 [s, v]) w K := by
  rw [bs22_0]
  have hk1 : Kp w (w.alloc (.cells #[] 32)) := below_alloc _
  have hown : TlAt w.heap.size (w.alloc (.cells #[] 32)) (.slice (some ⟨w.heap.size, 0, none⟩) 0 0) [] := ⟨rfl, .inr ⟨w.heap.size, 0, #[], rfl, Nat.le_refl _, heap_alloc_new w _, Nat.le_refl _, by unfold maxLen; omega, rfl, rfl⟩⟩
  obtain ⟨a, cap, rfl, _, hh⟩ := hr.kp hk1
  have hsz : w.heap.size ≤ (w.alloc (.cells #[] 32)).heap.size := hk1.size
  cases l with
  | nil => exact r_ap0 slt22 hown (hk _ _ hown hk1)
  | cons x l =>
    obtain ⟨b, off, rfl, hc⟩ := hh (by simp)
    have hlen := recCells_length tlC_len (x :: l)
    refine r_ap (xs := []) (news := recCells tlC (x :: l)) (m := (x :: l).length) slt22 hown hlen (fun j u hj => ?_) (fun u hu => ?_) (by simp at hl ⊢; omega) (by omega) hsz fun v' w' ho hg hn => ?_
    · have hlt : j < (x :: l).length * 4 := by rw [← hlen]; exact (List.getElem?_eq_some_iff.1 hj).1
      have hq : j / 4 < (x :: l).length := Nat.div_lt_of_lt_mul (by rw [Nat.mul_comm]; exact hlt)
      have hqe : (x :: l)[j / 4]? = some (x :: l)[j / 4] := List.getElem?_eq_getElem hq
      have hat := recCells_at tlC_len (x :: l) (j / 4) (j % 4) _ hqe (Nat.mod_lt _ (by omega))
      rw [show j / 4 * 4 + j % 4 = j by omega, hj] at hat
      have := hc (j / 4) _ hqe (j % 4) u hat.symm
      rw [r_addr]
      rw [show off + j / 4 * 4 + j % 4 = off + j by omega] at this
      exact this
    · simp only [recCells, List.mem_flatMap] at hu
      obtain ⟨t, _, ht⟩ := hu
      exact tlC_one t u ht
    · refine hk _ _ ?_ (Kp.of_chg hk1 (Chg.of_grown (S := fun k => k = w.heap.size) hg fun k e => by cases e; rfl) fun i e => by omega)
      unfold TlAt RecAt
      simpa using ho

end Go.Proofs.Ytgalbokmgffhkaa
