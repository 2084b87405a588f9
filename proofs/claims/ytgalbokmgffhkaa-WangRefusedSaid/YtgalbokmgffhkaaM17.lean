/- Texts of my own, merged by program: Tt J10 Sk. -/
import Derived.Test.YtgalbokmgffhkaaM06
import Derived.Test.YtgalbokmgffhkaaM16
import Derived.Test.YtgalbokmgffhkaaM03
set_option linter.all false
/- Tiles of one's own. -/
namespace Go.Proofs.Ytgalbokmgffhkaa
open Go.Lf Go.RowKit Go.Wg

abbrev TlAt (base : Nat) (w : World) (v : Value) (l : List Tile) : Prop := RecAt 32 4 tlC base w v l
theorem slt22 : SlT 22 32 4 32 := SlT.mk' (z := tlV (0, 0, 0, 0)) (by kernel_rfl) (by kernel_rfl) rfl (by decide)
theorem bs22 (a b c d : Int) (w : World) (K : Value → World → Prop) : bsW Try.prog 22 1 [(0, tlV (a, b, c, d))] w K = K (.slice (some ⟨w.heap.size, 0, none⟩) 1 1) (w.alloc (.cells (Value.agg #[.int .i64 a, .int .i64 b, .int .i64 c, .int .i64 d]).cells 32)) := by kernel_rfl
theorem tlC_one (t : Tile) : ∀ u ∈ tlC t, u.oneCell' = true := by
  intro u hu
  simp [tlC] at hu
  rcases hu with rfl | rfl | rfl | rfl <;> rfl


end Go.Proofs.Ytgalbokmgffhkaa

/- Contract: Fill of the specification; WangCounts. -/
namespace Go.Proofs.Ytgalbokmgffhkaa
open Go.Lf Go.RowKit Go.Wg

theorem flat_len {W : Nat} : ∀ {R : List (List Nat)}, (∀ r ∈ R, r.length = W) → R.flatten.length = R.length * W
  | [], _ => by simp
  | r :: R, h => by
    rw [List.flatten_cons, List.length_append, flat_len fun x hx => h x (by simp [hx]), h r (by simp), List.length_cons, Nat.add_mul, Nat.one_mul]
    omega

set_option maxRecDepth 100000 in
set_option maxHeartbeats 800000 in
theorem r28_0 {l : List Tile} {W H : Nat} {sv lv wv : Value} {w0 : World} {K : Ending → World → Prop} (hset : IsSet l) (hW : 1 ≤ W ∧ W ≤ 4) (hH : 1 ≤ H ∧ H ≤ 4) (hr : RdT w0 sv l) (hL : RdInts w0 lv (lineL l)) (hwv : RdRows w0 wv (waysLL l W H)) (hpos : 0 < Wq l W H (W * H) 0)
    (hK : ∀ (v : Value) (R : List (List Nat)) (w' : World), Kp w0 w' → R.flatten = gS l W H (W * H) 0 → (∀ r ∈ R, r.length = W) → IRows w0.heap.size w' v (R.map intsR) → K (.returned (.tuple #[v, .int .i64 0])) w') :
    S28L0 sv (.int .i64 W) (.int .i64 H) wv lv K w0 := by
  have hWH : W * H ≤ 16 := Nat.mul_le_mul hW.2 hH.2
  have hal : 0 < allS l W := by
    have := Nat.pow_pos (n := W) (line_pos hset)
    unfold allS; omega
  unfold S28L0
  refine ⟨fun t11 t12 t13 t14 wr => ∃ (p s : Nat) (R : List (List Nat)) (row taken : List Nat), p ≤ W * H ∧ t14 = .int .i64 p ∧ t11 = .int .i64 s ∧ s < allS l W ∧ 0 < Wq l W H (W * H - p) s ∧ gS l W H (W * H) 0 = taken ++ gS l W H (W * H - p) s ∧ taken.length = p ∧ R.flatten ++ row = taken ∧ (∀ r ∈ R, r.length = W) ∧ row.length < W ∧ OSt w0.heap.size wr t12 t13 R row ∧ Kp w0 wr ∧ w0.heap.size ≤ wr.heap.size,
    fun _ _ _ t14 _ => W * H - (intOf t14).toNat, ⟨0, 0, [], [], [], by omega, rfl, rfl, hal, hpos, rfl, rfl, rfl, by simp, by show 0 < W; omega, ⟨⟨[], RecAt.nil, rfl, by simp⟩, RecAt.nil⟩, Kp.refl _, Nat.le_refl _⟩, ?_⟩
  rintro _ _ t12 t13 _ wr ⟨p, s, R, row, taken, hp, rfl, rfl, hs, hq, hfull, htl, hflat, hRl, hrl, S, kr, sz⟩
  rw [r_mulN _ _ (by omega)]
  have hfl := flat_len hRl
  have htot : R.length * W + row.length = p := by rw [← hfl, ← List.length_append, hflat, htl]
  by_cases hlt : p < W * H
  case neg =>
    have hlt' : ¬ (p : Int) < ((W * H : Nat) : Int) := by omega
    have hp' : p = W * H := by omega
    subst hp'
    have hrow : row.length = 0 := by
      have h1 : (R.length * W + row.length) % W = row.length := by rw [Nat.add_comm, Nat.add_mul_mod_self_right, Nat.mod_eq_of_lt hrl]
      rw [htot, Nat.mul_mod_right] at h1
      omega
    have hr0 : row = [] := List.length_eq_zero_iff.1 hrow
    subst hr0
    rw [List.append_nil] at hflat
    rw [Nat.sub_self] at hfull
    simp (disch := omega) only [r_lss, hlt', decide_false, r_condF]
    refine hK _ R wr kr ?_ hRl S.irows
    rw [hfull, hflat]; simp [gS]
  have hlt' : (p : Int) < ((W * H : Nat) : Int) := by omega
  have hq1 : W * H - p = (W * H - (p + 1)) + 1 := by omega
  have hqp : W * H - (W * H - (p + 1) + 1) = p := by omega
  simp (disch := omega) only [r_lss, decide_eq_true hlt', r_condT]
  have hRle : R.length ≤ 16 := by
    have : R.length * 1 ≤ R.length * W := Nat.mul_le_mul_left _ hW.1
    omega
  refine r_join2 (fun a c w' => ∃ i, i < l.length ∧ a = .int .i64 (nxtS l W p s i) ∧ (List.range l.length).find? (okB l W H (W * H - (p + 1)) s) = some i ∧ OSt w0.heap.size w' t12 c R (row ++ [i]) ∧ Kp w0 w' ∧ w0.heap.size ≤ w'.heap.size) ?_ fun k3 hk3 => ?_
  · rintro _ c w2 ⟨i, hil, rfl, hf, S2, k2, sz2⟩
    have hok := List.find?_some hf
    have htm : tl l i ∈ l := by unfold tl; exact getD_mem hil
    rw [okB, hqp] at hok
    obtain ⟨s', hput, hpos'⟩ : ∃ s', putM l W p s (tl l i) = some s' ∧ 0 < Wq l W H (W * H - (p + 1)) s' := by
      cases hm : putM l W p s (tl l i) with
      | none => rw [hm] at hok; cases hok
      | some s' =>
        rw [hm] at hok
        exact ⟨s', rfl, of_decide_eq_true hok⟩
    have hst : nxtS l W p s i = s' := by rw [nxtS, hput]; rfl
    have hs' := put_lt hset htm hW.1 hs hput
    have hg : gS l W H (W * H - p) s = i :: gS l W H (W * H - (p + 1)) s' := by
      rw [hq1, gS, hf]
      dsimp only
      rw [hqp, hst]
    rw [hst]
    have S2r := S2.row
    obtain ⟨ca, cc, ec, _⟩ := S2r.len
    have hil2 : (intsR (row ++ [i])).length = row.length + 1 := by simp [intsR]
    rw [hil2] at ec
    have lnc : ∀ K : Value → Prop, ln1 c K = K (.int .i64 (row.length + 1 : Nat)) := fun K => by rw [ec]; rfl
    rw [lnc]
    simp only [r_eql]
    refine r_join2 (fun a b w' => ∃ (R' : List (List Nat)) (row' : List Nat), OSt w0.heap.size w' a b R' row' ∧ R'.flatten ++ row' = taken ++ [i] ∧ (∀ r ∈ R', r.length = W) ∧ row'.length < W ∧ Kp w0 w' ∧ w0.heap.size ≤ w'.heap.size) ?_ fun k4 hk4 => ?_
    · rintro a b w3 ⟨R', row', S3, e3, l3, m3, k3', sz3⟩
      rw [r_add _ _ (by omega) (by omega)]
      refine ⟨⟨p + 1, s', R', row', taken ++ [i], by omega, by go_num, rfl, hs', hpos', ?_, by simp [htl], e3, l3, m3, S3, k3', sz3⟩, by simp only [intOf]; omega⟩
      rw [hfull, hg]; simp
    by_cases hfin : row.length + 1 = W
    · have hfin' : ((row.length + 1 : Nat) : Int) = (W : Int) := by omega
      simp only [decide_eq_true hfin', r_condT]
      refine S2.flush (by omega) sz2 fun v' w' S' hsz hkk => ?_
      refine hk4 _ _ _ ⟨R ++ [row ++ [i]], [], S', ?_, fun r hr => ?_, by show 0 < W; omega, hkk w0 (Nat.le_refl _) k2, by omega⟩
      · rw [← hflat]; simp
      · rcases List.mem_append.1 hr with h | h
        · exact hRl r h
        · simp at h; rw [h]; simp [hfin]
    · have hfin' : ¬ ((row.length + 1 : Nat) : Int) = (W : Int) := by omega
      simp only [hfin', decide_false, r_condF]
      exact hk4 _ _ _ ⟨R, row ++ [i], S2, by rw [← hflat]; simp, hRl, by simp; omega, k2, sz2⟩
  · exact r28_1 hset hW hH hr hL hwv kr (Nat.le_refl _) sz hlt hs hq S (by omega) fun i v' w' hil hf S' k' sz' => hk3 _ _ _ ⟨i, hil, rfl, hf, S', k', sz'⟩

set_option maxRecDepth 100000 in
theorem reffill_calls {v : Value} {l : List Tile} (a b : Int) (w : World) (hr : RdT w v l) : Calls Try.prog 28 #[v, .int .i64 a, .int .i64 b] w fun e w' => Kp w w' ∧ FillPost l a b w.heap.size w' e := by
  refine lift28 ?_
  unfold S28
  refine r_use fok23 (order_calls a b w hr) rfl ?_
  rintro _ w1 ⟨rfl, k1⟩
  refine ⟨_, rfl, ?_⟩
  have h20 : ¬ ((2 : Int) = 0) := by decide
  rcases ordErr_cases l a b with he | he
  rotate_left
  · rw [he]
    simp (disch := omega) only [r_ln, r_pick, r_pickT, r_pickF, r_condT, r_condF, r_gdTT, r_gdFF, r_gdTF, r_gdFT, r_gqTT, r_gqFF, r_gqTF, r_gqFT, r_not, r_lss, r_leq, r_gtr, r_geq, r_eql, r_neq, r_add, r_sub, r_min2, r_max2, r_min3, r_max3, r_fa, r_iaS, r_iaA, r_ex2a, r_ex2b, r_ex3a, r_ex3b, r_ex3c, r_nc, r_keepE, Nat.zero_add, Nat.add_zero, Nat.mul_one, Int.toNat_natCast, toNat_sub1, toNat_add1, decide_true, decide_false, Bool.not_true, Bool.not_false, if_true, if_false, Bool.false_eq_true, reduceCtorEq, h20]
    exact ⟨k1, .inl ⟨by omega, rfl⟩⟩
  obtain ⟨hs, W, H, rfl, rfl, hW, hH⟩ := ord_ok he
  have hWH : W * H ≤ 16 := Nat.mul_le_mul hW.2 hH.2
  have hal := allS_le (l := l) hW.2
  have hlm := hs.most
  have hpos : 0 < allS l W := by
    have := Nat.pow_pos (n := W) (line_pos hs)
    unfold allS; omega
  rw [he]
  simp (disch := omega) only [r_ln, r_pick, r_pickT, r_pickF, r_condT, r_condF, r_gdTT, r_gdFF, r_gdTF, r_gdFT, r_gqTT, r_gqFF, r_gqTF, r_gqFT, r_not, r_lss, r_leq, r_gtr, r_geq, r_eql, r_neq, r_add, r_sub, r_min2, r_max2, r_min3, r_max3, r_fa, r_iaS, r_iaA, r_ex2a, r_ex2b, r_ex3a, r_ex3b, r_ex3c, r_nc, r_keepE, Nat.zero_add, Nat.add_zero, Nat.mul_one, Int.toNat_natCast, toNat_sub1, toNat_add1, decide_true, decide_false, Bool.not_true, Bool.not_false, if_true, if_false, Bool.false_eq_true, reduceCtorEq, decide_eq_true (rfl : (0 : Int) = 0)]
  refine r_use fok75 (ways_calls w1 (hr.kp k1) hs hW hH (by omega)) rfl ?_
  rintro _ w2 ⟨v2, rfl, k2, o2⟩
  refine ⟨_, rfl, ?_⟩
  have hrows : RdRows w2 v2 (waysLL l W H) := o2.rd (by rw [waysLL_len]; omega) fun r h => by rw [waysLL_row r h]; omega
  have k02 := Kp.trans k1 k2
  refine ways_read (p := 0) (s := 0) hrows (by omega) hpos hWH hal _ ?_
  rw [Nat.sub_zero]
  obtain ⟨hnone, hsome⟩ := fill_all hs (w := W) (h := H) (by omega) (by omega)
  have hc0 : capI (Wq l W H (W * H) 0) = 0 ↔ Wq l W H (W * H) 0 = 0 := by unfold capI; omega
  by_cases g : Wq l W H (W * H) 0 = 0
  · simp (disch := omega) only [r_ln, r_pick, r_pickT, r_pickF, r_condT, r_condF, r_gdTT, r_gdFF, r_gdTF, r_gdFT, r_gqTT, r_gqFF, r_gqTF, r_gqFT, r_not, r_lss, r_leq, r_gtr, r_geq, r_eql, r_neq, r_add, r_sub, r_min2, r_max2, r_min3, r_max3, r_fa, r_iaS, r_iaA, r_ex2a, r_ex2b, r_ex3a, r_ex3b, r_ex3c, r_nc, r_keepE, Nat.zero_add, Nat.add_zero, Nat.mul_one, Int.toNat_natCast, toNat_sub1, toNat_add1, decide_true, decide_false, Bool.not_true, Bool.not_false, if_true, if_false, Bool.false_eq_true, reduceCtorEq, decide_eq_true (hc0.2 g)]
    exact ⟨k02, .inr (.inl ⟨he, by simpa using hnone.1 g, rfl⟩)⟩
  have g' : ¬ capI (Wq l W H (W * H) 0) = 0 := fun h => g (hc0.1 h)
  simp (disch := omega) only [r_ln, r_pick, r_pickT, r_pickF, r_condT, r_condF, r_gdTT, r_gdFF, r_gdTF, r_gdFT, r_gqTT, r_gqFF, r_gqTF, r_gqFT, r_not, r_lss, r_leq, r_gtr, r_geq, r_eql, r_neq, r_add, r_sub, r_min2, r_max2, r_min3, r_max3, r_fa, r_iaS, r_iaA, r_ex2a, r_ex2b, r_ex3a, r_ex3b, r_ex3c, r_nc, r_keepE, Nat.zero_add, Nat.add_zero, Nat.mul_one, Int.toNat_natCast, toNat_sub1, toNat_add1, decide_true, decide_false, Bool.not_true, Bool.not_false, if_true, if_false, Bool.false_eq_true, reduceCtorEq, g']
  refine r_use fok70 (lines_calls w2 (hr.kp k02) (by omega)) rfl ?_
  rintro _ w3 ⟨lv, rfl, o3, k3⟩
  refine ⟨_, rfl, ?_⟩
  have hL : RdInts w3 lv (lineL l) := Rd.ints (o3.rd iC_len) (by have := line_len l; omega)
  have k03 := Kp.trans k02 k3
  refine r28_0 hs hW hH (hr.kp k03) hL (hrows.below k3) (by omega) fun v' R w' kk hfl hRl ho => ⟨Kp.trans k03 kk, .inr (.inr ⟨he, ?_⟩)⟩
  cases hB : fillM l W H (-1) with
  | none => exact absurd (hnone.2 hB) g
  | some B =>
    obtain ⟨b1, b2, b3⟩ := hsome B hB
    have : R = B := flat_inj (by omega) hRl b3 (by rw [hfl, b1])
    subst this
    exact ⟨v', R, rfl, by simpa using hB, ho.down k03.size⟩

def fillE (l : List Tile) (a b : Int) : Int := if ordErr l a b = 0 then (if (fillM l a.toNat b.toNat (-1)).isNone then 10 else 0) else 2
def fillR (l : List Tile) (a b : Int) : List (List Int) := if ordErr l a b = 0 then ((fillM l a.toNat b.toNat (-1)).getD []).map intsR else []
theorem FillPost.form {l : List Tile} {a b : Int} {base : Nat} {w : World} {e : Ending} (h : FillPost l a b base w e) : ∃ v, e = .returned (.tuple #[v, .int .i64 (fillE l a b)]) ∧ IRows base w v (fillR l a b) := by
  rcases h with ⟨h, rfl⟩ | ⟨h1, h2, rfl⟩ | ⟨h1, v, B, rfl, h2, ho⟩
  · refine ⟨nilS, by rw [fillE, if_neg h], ?_⟩
    rw [fillR, if_neg h]; exact IRows.nil
  · refine ⟨nilS, by rw [fillE, if_pos h1, h2]; rfl, ?_⟩
    rw [fillR, if_pos h1, h2]; exact IRows.nil
  · refine ⟨v, by rw [fillE, if_pos h1, h2]; rfl, ?_⟩
    rw [fillR, if_pos h1, h2]; exact ho
theorem fillR_small (l : List Tile) (a b : Int) : (fillR l a b).length ≤ 4 ∧ ∀ r ∈ fillR l a b, r.length ≤ 4 := by
  unfold fillR
  by_cases he : ordErr l a b = 0
  · rw [if_pos he]
    obtain ⟨hs, W, H, rfl, rfl, hW, hH⟩ := ord_ok he
    obtain ⟨_, hsome⟩ := fill_all hs (w := W) (h := H) (by omega) (by omega)
    simp only [Int.toNat_natCast]
    cases hB : fillM l W H (-1) with
    | none => simp
    | some B =>
      obtain ⟨b1, b2, b3⟩ := hsome B hB
      simp only [Option.getD_some, List.length_map]
      refine ⟨by omega, fun r hr => ?_⟩
      obtain ⟨q, hq, rfl⟩ := List.mem_map.1 hr
      have := b3 q hq
      simp [intsR]; omega
  · rw [if_neg he]; simp

set_option maxRecDepth 100000 in
theorem states_calls {v : Value} {l : List Tile} {W : Nat} (w : World) (hr : RdT w v l) (hs : IsSet l) (hW : W ≤ 4) : Calls Try.prog 24 #[v, .int .i64 W] w fun e w' => e = .returned (.int .i64 (allS l W : Nat)) ∧ Kp w w' := by
  have hal := allS_le (l := l) hW
  have hlm := hs.most
  refine lift24 ?_
  unfold S24
  refine r_use fok70 (lines_calls w hr (by omega)) rfl ?_
  rintro _ w1 ⟨lv, rfl, o1, k1⟩
  refine ⟨_, rfl, ?_⟩
  obtain ⟨la, lc, elv, _⟩ := o1.len
  have lnl : ∀ K : Value → Prop, ln1 lv K = K (.int .i64 (lineL l).length) := fun K => by rw [elv]; rfl
  rw [lnl]
  have hpw : (lineL l).length ^ W ≤ 32768 := by unfold allS at hal; omega
  refine r_use fok69 (power_calls (n := (lineL l).length) (k := W) w1 (by omega) (line_pos hs) (by omega)) rfl ?_
  rintro _ _ ⟨rfl, rfl⟩
  refine ⟨_, rfl, ?_⟩
  rw [r_mul8 _ (by omega)]
  exact ⟨rfl, k1⟩

theorem bs22_0 (w : World) (K : Value → World → Prop) : bsW Try.prog 22 0 [] w K = K (.slice (some ⟨w.heap.size, 0, none⟩) 0 0) (w.alloc (.cells #[] 32)) := by kernel_rfl
set_option maxRecDepth 100000 in
/-- append([]Wang{}, l...): a copy. -/
theorem r_copyT {w : World} {v : Value} {l : List Tile} {K : Value → World → Prop} (hr : RdT w v l) (hl : l.length ≤ 1000000)
    (hk : ∀ v' w', TlAt w.heap.size w' v' l → Kp w w' → K v' w') :
    bsW Try.prog 22 0 [] w fun s w => semW Try.prog (apS [22, 22] 22 [s, v]) w K := by
  rw [bs22_0]
  have hk1 : Kp w (w.alloc (.cells #[] 32)) := below_alloc _
  have hown : TlAt w.heap.size (w.alloc (.cells #[] 32)) (.slice (some ⟨w.heap.size, 0, none⟩) 0 0) [] := ⟨rfl, .inr ⟨w.heap.size, 0, #[], rfl, Nat.le_refl _, heap_alloc_new w _, Nat.le_refl _, by unfold maxLen; omega, rfl, rfl⟩⟩
  obtain ⟨a, cap, rfl, _, hh⟩ := hr.kp hk1
  have hsz : w.heap.size ≤ (w.alloc (.cells #[] 32)).heap.size := hk1.size
  cases l with
  | nil => exact r_ap0 slt22 hown (hk _ _ hown hk1)
  | cons x l =>
    obtain ⟨b, off, rfl, hc⟩ := hh (by simp)
    have hlen := recCells_length tlC_len (x :: l)
    refine r_ap (xs := []) (news := recCells tlC (x :: l)) (m := (x :: l).length) slt22 hown hlen (fun j u hj => ?_) (fun u hu => ?_) (by simp at hl ⊢; omega) (by omega) hsz fun v' w' ho hg hn => ?_
    · have hlt : j < (x :: l).length * 4 := by rw [← hlen]; exact (List.getElem?_eq_some_iff.1 hj).1
      have hq : j / 4 < (x :: l).length := Nat.div_lt_of_lt_mul (by rw [Nat.mul_comm]; exact hlt)
      have hqe : (x :: l)[j / 4]? = some (x :: l)[j / 4] := List.getElem?_eq_getElem hq
      have hat := recCells_at tlC_len (x :: l) (j / 4) (j % 4) _ hqe (Nat.mod_lt _ (by omega))
      rw [show j / 4 * 4 + j % 4 = j by omega, hj] at hat
      have := hc (j / 4) _ hqe (j % 4) u hat.symm
      rw [r_addr]
      rw [show off + j / 4 * 4 + j % 4 = off + j by omega] at this
      exact this
    · simp only [recCells, List.mem_flatMap] at hu
      obtain ⟨t, _, ht⟩ := hu
      exact tlC_one t u ht
    · refine hk _ _ ?_ (Kp.of_chg hk1 (Chg.of_grown (S := fun k => k = w.heap.size) hg fun k e => by cases e; rfl) fun i e => by omega)
      unfold TlAt RecAt
      simpa using ho

end Go.Proofs.Ytgalbokmgffhkaa

/- Lifted texts, printed by program (gen.py): what each function's code asks. The ties are by the kernel. -/
namespace Go.Proofs.Ytgalbokmgffhkaa
open Go.Lf Go.RowKit

def S7 (t0 t1 t2 t3 : Value) (w : World) (R : Ending → World → Prop) : Prop :=
  callW Try.prog (.func (.func 31) #[] #[]) [t0, t1, t2] w fun t20 w =>
  unQ .not t20 fun t21 =>
  gd t21 false (fun k => k t3 w) w fun t23 w =>
  gd t21 false (fun k => callW Try.prog (.func (.func 17) #[] #[]) [t23, (.int .i64 200)] w k) w fun t24 w =>
  gd t21 false (fun k => unQ .not t24 fun v => k v w) w fun t25 w =>
  pickQ t21 (.bool true) t25 fun t26 =>
  condW t26 (
    callW Try.prog (.func (.func 18) #[] #[]) [] w fun t27 w =>
    R (.returned t27) w
  ) (
    callW Try.prog (.func (.func 27) #[] #[]) [t0, t1, t2] w fun t32 w =>
    exQ t32 0 fun t33 =>
    exQ t32 1 fun t34 =>
    callW Try.prog (.func (.func 32) #[] #[]) [t0, t1, t2] w fun t39 w =>
    exQ t39 0 fun t40 =>
    exQ t39 1 fun t41 =>
    callW Try.prog (.func (.func 19) #[] #[]) [t0, t1, t2, t3] w fun t47 w =>
    exQ t47 0 fun t48 =>
    exQ t47 1 fun t49 =>
    callW Try.prog (.func (.func 23) #[] #[]) [t0, t1, t2] w fun t53 w =>
    binQ Try.prog w .neq 26 true t53 (.int .i64 0) fun t54 =>
    condW t54 (
      binQ Try.prog w .eql 26 true t34 (.int .i64 2) fun t56 =>
      gd t56 true (fun k => k t41 w) w fun t58 w =>
      gd t56 true (fun k => k t34 w) w fun t59 w =>
      gd t56 true (fun k => binQ Try.prog w .eql 26 false t58 t59 fun v => k v w) w fun t60 w =>
      pickQ t56 t60 (.bool false) fun t61 =>
      gd t61 true (fun k => k t49 w) w fun t63 w =>
      gd t61 true (fun k => k t34 w) w fun t64 w =>
      gd t61 true (fun k => binQ Try.prog w .eql 26 false t63 t64 fun v => k v w) w fun t65 w =>
      pickQ t61 t65 (.bool false) fun t66 =>
      gd t66 true (fun k => k t40 w) w fun t68 w =>
      gd t66 true (fun k => ln1 t68 fun v => k v w) w fun t69 w =>
      gd t66 true (fun k => binQ Try.prog w .eql 3 true t69 (.int .i64 0) fun v => k v w) w fun t70 w =>
      pickQ t66 t70 (.bool false) fun t71 =>
      gd t71 true (fun k => callW Try.prog (.func (.func 18) #[] #[]) [] w k) w fun t73 w =>
      pickQ t71 t73 (.bool false) fun t74 =>
      R (.returned t74) w
    ) (
      binQ Try.prog w .eql 26 true t34 (.int .i64 0) fun t76 =>
      binQ Try.prog w .eql 26 true t41 (.int .i64 10) fun t78 =>
      binQ Try.prog w .neq 4 false t76 t78 fun t79 =>
      gd t79 false (fun k => k t34 w) w fun t81 w =>
      gd t79 false (fun k => binQ Try.prog w .eql 26 true t81 (.int .i64 0) fun v => k v w) w fun t82 w =>
      gd t79 false (fun k => k t82 w) w fun t83 w =>
      gd t83 true (fun k => k t48 w) w fun t84 w =>
      gd t79 false (fun k => pickQ t83 t84 (.bool false) fun v => k v w) w fun t85 w =>
      pickQ t79 (.bool true) t85 fun t86 =>
      gd t86 false (fun k => k t49 w) w fun t88 w =>
      gd t86 false (fun k => binQ Try.prog w .neq 26 true t88 (.int .i64 0) fun v => k v w) w fun t89 w =>
      pickQ t86 (.bool true) t89 fun t90 =>
      condW t90 (
        R (.returned (.bool false)) w
      ) (
        binQ Try.prog w .eql 26 true t34 (.int .i64 0) fun t92 =>
        condW t92 (
          callW Try.prog (.func (.func 18) #[] #[]) [] w fun t93 w =>
          R (.returned t93) w
        ) (
          callW Try.prog (.func (.func 19) #[] #[]) [t0, t1, t2, t40] w fun t99 w =>
          exQ t99 0 fun t100 =>
          exQ t99 1 fun t101 =>
          binQ Try.prog w .neq 26 true t41 (.int .i64 0) fun t103 =>
          gd t103 false (fun k => k t101 w) w fun t105 w =>
          gd t103 false (fun k => binQ Try.prog w .neq 26 true t105 (.int .i64 0) fun v => k v w) w fun t106 w =>
          pickQ t103 (.bool true) t106 fun t107 =>
          gd t107 false (fun k => k t100 w) w fun t109 w =>
          gd t107 false (fun k => unQ .not t109 fun v => k v w) w fun t110 w =>
          pickQ t107 (.bool true) t110 fun t111 =>
          condW t111 (
            R (.returned (.bool false)) w
          ) (
            callW Try.prog (.func (.func 17) #[] #[]) [t40, (.int .i64 200)] w fun t113 w =>
            Join (fun (k_2 : World → Prop) =>
              condW t113 (
                callW Try.prog (.func (.func 20) #[] #[]) [t0, t1, t2, t40] w fun t119 w =>
                exQ t119 0 fun t120 =>
                exQ t119 1 fun t121 =>
                binQ Try.prog w .neq 26 true t121 (.int .i64 0) fun t123 =>
                gd t123 false (fun k => k t120 w) w fun t125 w =>
                gd t123 false (fun k => unQ .not t125 fun v => k v w) w fun t126 w =>
                pickQ t123 (.bool true) t126 fun t127 =>
                condW t127 (
                  R (.returned (.bool false)) w
                ) (
                  k_2 w
                )
              ) (
                k_2 w
              )
            ) fun w =>
            binQ Try.prog w .eql 3 true t2 (.int .i64 4) fun t129_2 =>
            condW t129_2 (
              binQ Try.prog w .eql 26 true t34 (.int .i64 10) fun t131_2 =>
              gd t131_2 true (fun k => callW Try.prog (.func (.func 18) #[] #[]) [] w k) w fun t133_2 w =>
              pickQ t131_2 t133_2 (.bool false) fun t134_2 =>
              R (.returned t134_2) w
            ) (
              binQ Try.prog w .add 3 true t2 (.int .i64 1) fun t139_2 =>
              callW Try.prog (.func (.func 27) #[] #[]) [t0, t1, t139_2] w fun t140_2 w =>
              exQ t140_2 0 fun t141_2 =>
              exQ t140_2 1 fun t142_2 =>
              binQ Try.prog w .eql 26 true t34 (.int .i64 10) fun t144_2 =>
              gd t144_2 true (fun k => k t142_2 w) w fun t146_2 w =>
              gd t144_2 true (fun k => binQ Try.prog w .eql 26 true t146_2 (.int .i64 10) fun v => k v w) w fun t147_2 w =>
              pickQ t144_2 t147_2 (.bool false) fun t148_2 =>
              gd t148_2 true (fun k => callW Try.prog (.func (.func 18) #[] #[]) [] w k) w fun t150_2 w =>
              pickQ t148_2 t150_2 (.bool false) fun t151_2 =>
              R (.returned t151_2) w
            )
          )
        )
      )
    )
  )

def A7 : Ann where
  live := fun _ => []
  wr := fun _ _ => false
  sched := fun _ => .done

set_option maxRecDepth 100000 in
theorem ok7 : (codeOk Try.f7.ntmps A7 (Try.f7.body.getD .skip) 0 && Nat.ble 4 Try.f7.ntmps) = true := by kernel_rfl
set_option maxRecDepth 100000 in
theorem lift7 {t0 t1 t2 t3 : Value} {w : World} {R : Ending → World → Prop} (h : S7 t0 t1 t2 t3 w R) : Calls Try.prog 7 #[t0, t1, t2, t3] w R :=
  calls_of_cw (fn := Try.f7) (c := Try.f7.body.getD .skip) A7 mixes Try.func7 (by kernel_rfl) ok7
    ((by kernel_rfl : (S7 t0 t1 t2 t3 w R) = cw Try.prog A7 (Try.f7.body.getD .skip) 0 (bodyQ Try.prog Try.f7 R) (frOf #[t0, t1, t2, t3]) w).mp h)

def S31 (t0 t1 t2 : Value) (w : World) (R : Ending → World → Prop) : Prop :=
  ln1 t0 fun t8 =>
  binQ Try.prog w .leq 3 true t8 (.int .i64 40) fun t9 =>
  gd t9 true (fun k => k t0 w) w fun t11 w =>
  gd t9 true (fun k => k t1 w) w fun t12 w =>
  gd t9 true (fun k => k t2 w) w fun t13 w =>
  gd t9 true (fun k => callW Try.prog (.func (.func 23) #[] #[]) [t11, t12, t13] w k) w fun t14 w =>
  gd t9 true (fun k => binQ Try.prog w .neq 26 true t14 (.int .i64 0) fun v => k v w) w fun t15 w =>
  gd t9 true (fun k => k t15 w) w fun t16 w =>
  gd t16 false (fun k => k t0 w) w fun t17 w =>
  gd t16 false (fun k => k t1 w) w fun t18 w =>
  gd t16 false (fun k => callW Try.prog (.func (.func 24) #[] #[]) [t17, t18] w k) w fun t19 w =>
  gd t16 false (fun k => binQ Try.prog w .leq 3 true t19 (.int .i64 60000) fun v => k v w) w fun t20 w =>
  gd t16 false (fun k => k t20 w) w fun t21 w =>
  gd t21 true (fun k => k t0 w) w fun t22 w =>
  gd t21 true (fun k => callW Try.prog (.func (.func 46) #[] #[]) [t22] w k) w fun t23 w =>
  gd t21 true (fun k => k t2 w) w fun t24 w =>
  gd t21 true (fun k => callW Try.prog (.func (.func 24) #[] #[]) [t23, t24] w k) w fun t25 w =>
  gd t21 true (fun k => binQ Try.prog w .leq 3 true t25 (.int .i64 60000) fun v => k v w) w fun t26 w =>
  gd t16 false (fun k => pickQ t21 t26 (.bool false) fun v => k v w) w fun t27 w =>
  gd t9 true (fun k => pickQ t16 (.bool true) t27 fun v => k v w) w fun t28 w =>
  pickQ t9 t28 (.bool false) fun t29 =>
  R (.returned t29) w

def A31 : Ann where
  live := fun _ => []
  wr := fun _ _ => false
  sched := fun _ => .done

set_option maxRecDepth 100000 in
theorem ok31 : (codeOk Try.f31.ntmps A31 (Try.f31.body.getD .skip) 0 && Nat.ble 3 Try.f31.ntmps) = true := by kernel_rfl
set_option maxRecDepth 100000 in
theorem lift31 {t0 t1 t2 : Value} {w : World} {R : Ending → World → Prop} (h : S31 t0 t1 t2 w R) : Calls Try.prog 31 #[t0, t1, t2] w R :=
  calls_of_cw (fn := Try.f31) (c := Try.f31.body.getD .skip) A31 mixes Try.func31 (by kernel_rfl) ok31
    ((by kernel_rfl : (S31 t0 t1 t2 w R) = cw Try.prog A31 (Try.f31.body.getD .skip) 0 (bodyQ Try.prog Try.f31 R) (frOf #[t0, t1, t2]) w).mp h)

def S46L0 (t0 : Value) (R : Ending → World → Prop) (w : World) : Prop :=
  Loop2 (.slice none 0 0) (.int .i64 0) w fun _ t3 t4 w next =>
    ln1 t0 fun t7 =>
    binQ Try.prog w .lss 3 false t4 t7 fun t8 =>
    condW t8 (
      Drew w fun w =>
      iaS 4 t0 t4 fun t14 =>
      fa1 t14 3 fun t15 =>
      ld1 w t15 fun t16 =>
      iaS 4 t0 t4 fun t19 =>
      fa1 t19 0 fun t20 =>
      ld1 w t20 fun t21 =>
      iaS 4 t0 t4 fun t24 =>
      fa1 t24 1 fun t25 =>
      ld1 w t25 fun t26 =>
      iaS 4 t0 t4 fun t29 =>
      fa1 t29 2 fun t30 =>
      ld1 w t30 fun t31 =>
      bdQ Try.prog 32 [(0, t16), (1, t21), (2, t26), (3, t31)] fun t32 =>
      bsW Try.prog 22 1 [(0, t32)] w <| keepB w fun t33 w =>
      semW Try.prog (apS [22, 22] 22 [t3, t33]) w fun t34 w =>
      binQ Try.prog w .add 3 true t4 (.int .i64 1) fun t10 =>
      next t34 t10 w
    ) (
      R (.returned t3) w
    )



def S46 (t0 : Value) (w : World) (R : Ending → World → Prop) : Prop :=
  S46L0 t0 R w

def A46 : Ann where
  live := fun
    | 0 => [3, 4]
    | _ => []
  wr := fun
    | 0 => fun i => (Nat.ble 3 i && Nat.ble i 34)
    | _ => fun _ => false
  sched := fun
    | 5 => (.take 0 (.take 1 (.take 2 (.take 3 (.take 4 (.take 5 (.take 6 (.take 7 (.take 8 (.take 9 (.take 10 (.take 11 (.take 12 (.take 13 (.take 14 (.take 15 (.take 16 (.take 17 (.take 18 (.take 19 (.take 20 (.take 21 (.eff 22 (.bar 23 (.take 24 .done)))))))))))))))))))))))))
    | _ => .done

set_option maxRecDepth 100000 in
theorem ok46 : (codeOk Try.f46.ntmps A46 (Try.f46.body.getD .skip) 0 && Nat.ble 1 Try.f46.ntmps) = true := by kernel_rfl
set_option maxRecDepth 100000 in
theorem lift46 {t0 : Value} {w : World} {R : Ending → World → Prop} (h : S46 t0 w R) : Calls Try.prog 46 #[t0] w R :=
  calls_of_cw (fn := Try.f46) (c := Try.f46.body.getD .skip) A46 mixes Try.func46 (by kernel_rfl) ok46
    ((by kernel_rfl : (S46 t0 w R) = cw Try.prog A46 (Try.f46.body.getD .skip) 0 (bodyQ Try.prog Try.f46 R) (frOf #[t0]) w).mp h)

theorem fok7 : fnOk Try.prog 7 = true := by kernel_rfl
theorem fok31 : fnOk Try.prog 31 = true := by kernel_rfl
theorem fok46 : fnOk Try.prog 46 = true := by kernel_rfl
end Go.Proofs.Ytgalbokmgffhkaa
