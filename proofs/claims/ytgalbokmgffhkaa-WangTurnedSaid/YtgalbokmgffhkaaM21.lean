/- Texts of my own, merged by program: N6 Sm N7. -/
import Derived.Test.YtgalbokmgffhkaaM20
import Derived.Test.YtgalbokmgffhkaaM03
import Derived.Test.YtgalbokmgffhkaaM15
set_option linter.all false
/- Contract: Closed of the specification. -/
namespace Go.Proofs.Ytgalbokmgffhkaa
open Go.Lf Go.RowKit Go.Wg

structure MOk (n : Nat) (M : List (List Int)) : Prop where
  len : M.length = n
  row : ∀ b, b < n → (M.getD b []).length = n
  rng : ∀ b c, b < n → c < n → 0 ≤ (M.getD b []).getD c 0 ∧ (M.getD b []).getD c 0 ≤ 65536

theorem nextC_rng {n b c : Nat} {M : List (List Int)} {now nx : List Int} (hM : MOk n M) (hb : b < n) (hc : c < n) (h1 : Rng now) (h2 : Rng nx) : Rng (nextC M now b nx c) ∧ (nextC M now b nx c).length = nx.length := by
  refine ⟨fun y hy => ?_, by simp [nextC]⟩
  rcases List.mem_or_eq_of_mem_set hy with h | rfl
  · exact h2 y h
  · have g1 := rng_getD h1 b
    have g2 := rng_getD h2 c
    have g3 := hM.rng b c hb hc
    have g4 : 0 ≤ now.getD b 0 * min ((M.getD b []).getD c 0) 1048576 := Int.mul_nonneg g1.1 (by omega)
    omega
theorem nextB_rng {n b : Nat} {M : List (List Int)} {now nx : List Int} (hM : MOk n M) (hb : b < n) (h1 : Rng now) (h2 : Rng nx) : ∀ c, c ≤ n → Rng ((List.range c).foldl (nextC M now b) nx) ∧ ((List.range c).foldl (nextC M now b) nx).length = nx.length
  | 0, _ => ⟨h2, rfl⟩
  | c + 1, hc => by
    obtain ⟨g1, g2⟩ := nextB_rng hM hb h1 h2 c (by omega)
    rw [List.range_succ, List.foldl_append]
    obtain ⟨g3, g4⟩ := nextC_rng hM hb (show c < n by omega) h1 g1
    exact ⟨g3, g4.trans g2⟩
theorem nextB_rng' {n b : Nat} {M : List (List Int)} {now nx : List Int} (hM : MOk n M) (hb : b < n) (h1 : Rng now) (h2 : Rng nx) : Rng (nextB M now nx b) ∧ (nextB M now nx b).length = nx.length := by
  unfold nextB
  split
  · rw [hM.len]
    exact nextB_rng hM hb h1 h2 n (Nat.le_refl _)
  · exact ⟨h2, rfl⟩
theorem nextR_rng {n : Nat} {M : List (List Int)} {now : List Int} (hM : MOk n M) (h1 : Rng now) : ∀ b, b ≤ n → Rng ((List.range b).foldl (nextB M now) (List.replicate n 0)) ∧ ((List.range b).foldl (nextB M now) (List.replicate n 0)).length = n
  | 0, _ => ⟨rng_zero n, by simp⟩
  | b + 1, hb => by
    obtain ⟨g1, g2⟩ := nextR_rng hM h1 b (by omega)
    rw [List.range_succ, List.foldl_append]
    obtain ⟨g3, g4⟩ := nextB_rng' hM (show b < n by omega) h1 g1
    exact ⟨g3, g4.trans g2⟩
theorem nowK_rng {n a : Nat} {M : List (List Int)} (hM : MOk n M) : ∀ k, Rng (nowK M a k) ∧ (nowK M a k).length = n
  | 0 => ⟨unit_rng _ _, by rw [nowK, unit_len, hM.len]⟩
  | k + 1 => by
    obtain ⟨g1, _⟩ := nowK_rng (a := a) hM k
    rw [nowK, nextR, hM.len]
    exact nextR_rng hM g1 n (Nat.le_refl _)

set_option maxRecDepth 100000 in
set_option maxHeartbeats 1000000 in
theorem r34_3 {n b : Nat} {M : List (List Int)} {now nx : List Int} {nv mv xv : Value} {w1 w : World} {next : Value → World → Prop} (hM : MOk n M) (hn : n ≤ 4096) (hb : b < n) (h1 : Rng now) (hnl : now.length = n) (h2 : Rng nx) (hxl : nx.length = n) (hnv : RdInts w1 nv now) (hmv : RdRows w1 mv M) (hxv : IntsAt w1.heap.size w xv nx) (hk : Kp w1 w)
    (hnext : ∀ w', IntsAt w1.heap.size w' xv (nextB M now nx b) → Kp w1 w' → next (.int .i64 ((b : Int) + 1)) w') : S34L3 nv (.int .i64 b) mv xv next w := by
  obtain ⟨ma, mc, emv, _⟩ := hmv.len
  have lnm : ∀ K : Value → Prop, ln1 mv K = K (.int .i64 n) := fun K => by rw [emv, hM.len]; rfl
  have g1 := rng_getD h1 b
  have hbb : (b : Int).toNat = b := by omega
  unfold S34L3
  by_cases hpos : 0 < now.getD b 0
  case neg =>
    have eB : nextB M now nx b = nx := if_neg hpos
    rw [eB] at hnext
    refine ⟨fun t16 wr => t16 = .int .i64 0 ∧ IntsAt w1.heap.size wr xv nx ∧ Kp w1 wr, fun _ _ => 0, ⟨rfl, hxv, hk⟩, ?_⟩
    rintro _ _ wr ⟨rfl, hx, kr⟩
    have hlt' : (0 : Int) < (n : Int) := by omega
    obtain ⟨nb, no, nc, env, ncell⟩ := (hnv.below kr).at (j := b) (by omega)
    rw [lnm]
    simp only [r_lss, decide_eq_true hlt', r_gdTT]
    rw [env, r_iaS _ _ _ _ _ _ _ (by omega) (by omega), hbb, Nat.mul_one, r_ld ncell]
    simp only [r_gtr, hpos, decide_false, r_pickT, r_condF]
    rw [r_add _ _ (by omega) (by omega)]
    exact hnext wr hx kr
  have eB : nextB M now nx b = (List.range n).foldl (nextC M now b) nx := by
    unfold nextB; rw [if_pos hpos, hM.len]
  rw [eB] at hnext
  refine ⟨fun t16 wr => ∃ c : Nat, c ≤ n ∧ t16 = .int .i64 c ∧ IntsAt w1.heap.size wr xv ((List.range c).foldl (nextC M now b) nx) ∧ Kp w1 wr, fun t16 _ => n - (intOf t16).toNat, ⟨0, by omega, rfl, hxv, hk⟩, ?_⟩
  rintro _ _ wr ⟨c, hc, rfl, hx, kr⟩
  rw [lnm]
  by_cases hlt : c < n
  case neg =>
    have hlt' : ¬ (c : Int) < (n : Int) := by omega
    have ec : c = n := by omega
    subst ec
    simp only [r_lss, hlt', decide_false, r_gdFT, r_gdU, r_pickF, r_condF]
    rw [r_add _ _ (by omega) (by omega)]
    exact hnext wr hx kr
  have hlt' : (c : Int) < (n : Int) := by omega
  have hcc : (c : Int).toNat = c := by omega
  obtain ⟨y1, y2⟩ := nextB_rng hM hb h1 h2 c hc
  have hsucc : (List.range (c + 1)).foldl (nextC M now b) nx = nextC M now b ((List.range c).foldl (nextC M now b) nx) c := by
    rw [List.range_succ, List.foldl_append]; rfl
  generalize (List.range c).foldl (nextC M now b) nx = X at *
  have rdn : ∀ w', Kp wr w' → ∀ K : Value → Prop, (iaS 1 nv (.int .i64 b) fun p => ld1 w' p K) = K (.int .i64 (now.getD b 0)) := fun w' k K => by
    obtain ⟨nb, no, nc, env, ncell⟩ := (hnv.below (Kp.trans kr k)).at (j := b) (by omega)
    rw [env, r_iaS _ _ _ _ _ _ _ (by omega) (by omega), hbb, Nat.mul_one, r_ld ncell]
  simp only [r_lss, decide_eq_true hlt', r_gdTT]
  rw [rdn wr (Kp.refl _)]
  simp only [r_gtr, decide_eq_true hpos, r_pickT, r_condT]
  refine r_drew fun w2 k2 _ => ?_
  have k02 := Kp.trans kr k2
  obtain ⟨xg, xcap, exv, hxb, xc, xf, xset⟩ := IntsAt.put (hx.kp k2) (q := c) (by omega) (min (X.getD c 0 + min (now.getD b 0 * min ((M.getD b []).getD c 0) 1048576) 1099511627777) 1099511627777)
  have iax : ∀ K : Value → Prop, iaS 1 xv (.int .i64 c) K = K (.pointer (some ⟨xg, c, none⟩)) := fun K => by
    rw [exv, r_iaS _ _ _ _ _ _ _ (by omega) (by omega), hcc, Nat.mul_one, Nat.zero_add]
  rw [iax, r_ld xc, rdn w2 k2]
  obtain ⟨mb, mo, mcap, ru, emv2, mcell, hru⟩ := (hmv.below k02).row (i := b) (by rw [hM.len]; exact hb)
  obtain ⟨rb, ro, rcap, eru, rcell⟩ := hru.at (j := c) (by rw [hM.row b hb]; exact hlt)
  have hMl := hM.len
  have hrl := hM.row b hb
  have g2 := rng_getD y1 c
  have g3 := hM.rng b c hb hlt
  rw [emv2, r_iaS _ _ _ _ _ _ _ (by omega) (by omega), hbb, Nat.mul_one, r_ld mcell, eru, r_iaS _ _ _ _ _ _ _ (by omega) (by omega), hcc, Nat.mul_one, r_ld rcell, r_min2]
  generalize hq : now.getD b 0 = q at *
  generalize hm : (M.getD b []).getD c 0 = m at *
  have em : min m 1048576 = m := by omega
  have hmul0 : 0 ≤ q * m := Int.mul_nonneg g1.1 g3.1
  have hmul1 : q * m ≤ 1099511627777 * 65536 := Int.le_trans (Int.mul_le_mul_of_nonneg_right g1.2 g3.1) (Int.mul_le_mul_of_nonneg_left g3.2 (by omega))
  rw [em] at xset ⊢
  rw [r_mul _ _ (by omega) (by omega)]
  refine r_use fok88 (cappedI_calls (q * m) w2) rfl ?_
  rintro _ _ ⟨rfl, rfl⟩
  refine ⟨_, rfl, Kp.refl _, ?_⟩
  dsimp only
  rw [r_add _ _ (by omega) (by omega)]
  refine r_use fok88 (cappedI_calls _ w2) rfl ?_
  rintro _ _ ⟨rfl, rfl⟩
  refine ⟨_, rfl, Kp.refl _, ?_⟩
  dsimp only
  rw [iax, st3 xc xf, r_add _ _ (by omega) (by omega)]
  refine ⟨⟨c + 1, by omega, by go_num, ?_, Kp.of_chg k02 (Chg.setCell (S := fun q => q = xg) _ _ rfl) fun q e => by rw [e]; exact hxb⟩, by simp only [intOf]; omega⟩
  rw [hsucc]
  unfold nextC
  rw [hq, hm, em]
  exact xset

set_option maxRecDepth 100000 in
theorem r34_2 {n k : Nat} {M : List (List Int)} {now : List Int} {nv mv xv : Value} {w1 w : World} {next : Value → Value → World → Prop} (hM : MOk n M) (hn : n ≤ 4096) (h1 : Rng now) (hnl : now.length = n) (hk4 : k ≤ 100) (hnv : RdInts w1 nv now) (hmv : RdRows w1 mv M) (hxv : IntsAt w1.heap.size w xv (List.replicate n 0)) (hk : Kp w1 w)
    (hnext : ∀ w', IntsAt w1.heap.size w' xv (nextR M now) → Kp w1 w' → next xv (.int .i64 ((k : Int) + 1)) w') : S34L2 nv (.int .i64 k) mv xv next w := by
  obtain ⟨ma, mc, emv, _⟩ := hmv.len
  have lnm : ∀ K : Value → Prop, ln1 mv K = K (.int .i64 n) := fun K => by rw [emv, hM.len]; rfl
  unfold S34L2
  refine ⟨fun t15 wr => ∃ b : Nat, b ≤ n ∧ t15 = .int .i64 b ∧ IntsAt w1.heap.size wr xv ((List.range b).foldl (nextB M now) (List.replicate n 0)) ∧ Kp w1 wr, fun t15 _ => n - (intOf t15).toNat, ⟨0, by omega, rfl, hxv, hk⟩, ?_⟩
  rintro _ _ wr ⟨b, hb, rfl, hx, kr⟩
  rw [lnm]
  by_cases hlt : b < n
  case neg =>
    have hlt' : ¬ (b : Int) < (n : Int) := by omega
    have eb : b = n := by omega
    subst eb
    simp only [r_lss, hlt', decide_false, r_condF]
    rw [r_add _ _ (by omega) (by omega)]
    refine hnext wr ?_ kr
    rw [nextR, hM.len]; exact hx
  have hlt' : (b : Int) < (n : Int) := by omega
  simp only [r_lss, decide_eq_true hlt', r_condT]
  obtain ⟨y1, y2⟩ := nextR_rng hM h1 b hb
  refine r34_3 hM hn hlt h1 hnl y1 y2 hnv hmv hx kr fun w' hx' k' => ?_
  refine ⟨⟨b + 1, by omega, by go_num, ?_, k'⟩, by simp only [intOf]; omega⟩
  rw [List.range_succ, List.foldl_append]
  exact hx'

set_option maxRecDepth 100000 in
theorem r34_1 {n h a : Nat} {M : List (List Int)} {s : Int} {mv uv : Value} {w1 w : World} {next : Value → Value → World → Prop} (hM : MOk n M) (hn : n ≤ 4096) (ha : a < n) (hh : h ≤ 4) (hs : 0 ≤ s ∧ s ≤ 1099511627777) (hmv : RdRows w1 mv M) (hu : RdInts w uv (unitL n a)) (hk : Kp w1 w)
    (hnext : ∀ w', Kp w1 w' → next (.int .i64 (min (s + (nowK M a h).getD a 0) 1099511627777)) (.int .i64 ((a : Int) + 1)) w') : S34L1 (.int .i64 h) (.int .i64 s) (.int .i64 a) mv uv next w := by
  obtain ⟨ma, mc, emv, _⟩ := hmv.len
  have lnm : ∀ K : Value → Prop, ln1 mv K = K (.int .i64 n) := fun K => by rw [emv, hM.len]; rfl
  unfold S34L1
  refine ⟨fun t12 t13 wr => ∃ k : Nat, k ≤ h ∧ t13 = .int .i64 k ∧ RdInts wr t12 (nowK M a k) ∧ Kp w1 wr, fun _ t13 _ => h - (intOf t13).toNat, ⟨0, by omega, rfl, by rw [nowK, hM.len]; exact hu, hk⟩, ?_⟩
  rintro _ t12 _ wr ⟨k, hkh, rfl, hnow, kr⟩
  obtain ⟨y1, y2⟩ := nowK_rng (a := a) hM k
  by_cases hlt : k < h
  case neg =>
    have hlt' : ¬ (k : Int) < (h : Int) := by omega
    have ek : k = h := by omega
    subst ek
    simp only [r_lss, hlt', decide_false, r_condF]
    obtain ⟨nb, no, nc, env, ncell⟩ := hnow.at (j := a) (by omega)
    have g := rng_getD y1 a
    have haa : (a : Int).toNat = a := by omega
    rw [env, r_iaS _ _ _ _ _ _ _ (by omega) (by omega), haa, Nat.mul_one, r_ld ncell, r_add _ _ (by omega) (by omega)]
    refine r_use fok88 (cappedI_calls _ wr) rfl ?_
    rintro _ _ ⟨rfl, rfl⟩
    refine ⟨_, rfl, ?_⟩
    rw [r_add _ _ (by omega) (by omega)]
    exact hnext wr kr
  have hlt' : (k : Int) < (h : Int) := by omega
  simp only [r_lss, decide_eq_true hlt', r_condT]
  rw [lnm]
  refine mk30' (by omega) fun xv w2 ox k2 _ => ?_
  refine r34_2 (w1 := wr) hM hn y1 y2 (by omega) hnow (hmv.below kr) ox k2 fun w' hx' k' => ?_
  have hl : (nextR M (nowK M a k)).length = n := by
    have := (nowK_rng (a := a) hM (k + 1)).2
    rwa [nowK] at this
  refine ⟨⟨k + 1, by omega, by go_num, ?_, Kp.trans kr k'⟩, by simp only [intOf]; omega⟩
  rw [nowK]
  exact (hx'.rd iC_len).ints (by omega)

theorem rings_ok {l : List Tile} (hs : IsSet l) {W : Nat} (hW : 1 ≤ W ∧ W ≤ 4) : MOk ((lineL l).length ^ W) (ringsL l W) := by
  have hl : (ringsL l W).length = (lineL l).length ^ W := by simp [ringsL]
  have hrow : ∀ b, b < (lineL l).length ^ W → (ringsL l W).getD b [] = ringRow l W b := fun b hb => by
    rw [getD_lt _ _ _ (by rw [hl]; exact hb)]
    simp only [ringsL, List.getElem_map, List.getElem_range]
  refine ⟨hl, fun b hb => ?_, fun b c hb hc => ?_⟩
  · rw [hrow b hb]
    exact (ring_at hs (by omega) hb hb).1
  · rw [hrow b hb, (ring_at hs (by omega) hb hc).2]
    have := mN_le hs (W := W) (a := b) (b := c) hW.2
    omega

set_option maxRecDepth 100000 in
theorem refclosed_calls {v : Value} {l : List Tile} (a b : Int) (w : World) (hr : RdT w v l) : Calls Try.prog 34 #[v, .int .i64 a, .int .i64 b] w fun e w' => e = .returned (closeV l a b) ∧ Kp w w' := by
  refine lift34 ?_
  unfold S34
  refine r_use fok23 (order_calls a b w hr) rfl ?_
  rintro _ w1 ⟨rfl, k1⟩
  refine ⟨_, rfl, ?_⟩
  unfold closeV
  have h20 : ¬ ((2 : Int) = 0) := by decide
  rcases ordErr_cases l a b with he | he
  rotate_left
  · simp (disch := omega) only [r_ln, r_pick, r_pickT, r_pickF, r_condT, r_condF, r_gdTT, r_gdFF, r_gdTF, r_gdFT, r_gqTT, r_gqFF, r_gqTF, r_gqFT, r_not, r_lss, r_leq, r_gtr, r_geq, r_eql, r_neq, r_add, r_sub, r_min2, r_max2, r_min3, r_max3, r_fa, r_iaS, r_iaA, r_ex2a, r_ex2b, r_ex3a, r_ex3b, r_ex3c, r_nc, r_keepE, Nat.zero_add, Nat.add_zero, Nat.mul_one, Int.toNat_natCast, toNat_sub1, toNat_add1, decide_true, decide_false, Bool.not_true, Bool.not_false, if_true, if_false, Bool.false_eq_true, reduceCtorEq, he, h20]
    exact ⟨by first | rfl | trivial, k1⟩
  obtain ⟨hs, W, h, rfl, rfl, hW, hh⟩ := ord_ok he
  have hall := allS_le (l := l) hW.2
  have hnW : (lineL l).length ^ W ≤ 4096 := by unfold allS at hall; omega
  simp (disch := omega) only [r_ln, r_pick, r_pickT, r_pickF, r_condT, r_condF, r_gdTT, r_gdFF, r_gdTF, r_gdFT, r_gqTT, r_gqFF, r_gqTF, r_gqFT, r_not, r_lss, r_leq, r_gtr, r_geq, r_eql, r_neq, r_add, r_sub, r_min2, r_max2, r_min3, r_max3, r_fa, r_iaS, r_iaA, r_ex2a, r_ex2b, r_ex3a, r_ex3b, r_ex3c, r_nc, r_keepE, Nat.zero_add, Nat.add_zero, Nat.mul_one, Int.toNat_natCast, toNat_sub1, toNat_add1, decide_true, decide_false, Bool.not_true, Bool.not_false, if_true, if_false, Bool.false_eq_true, reduceCtorEq, he, decide_eq_true (rfl : (0 : Int) = 0)]
  refine r_use fok87 (rings_calls w1 (hr.kp k1) hs hW (by omega)) rfl ?_
  rintro _ w2 ⟨mv, rfl, k2, hI⟩
  refine ⟨_, rfl, ?_⟩
  have hM := rings_ok hs hW
  have hmv : RdRows w2 mv (ringsL l W) := hI.rd (by rw [hM.len]; omega) fun r hr => by
    obtain ⟨i, hi, rfl⟩ := List.getElem_of_mem hr
    have := hM.row i (by rw [← hM.len]; exact hi)
    rw [getD_lt _ _ _ hi] at this
    omega
  obtain ⟨ma, mc, emv, _⟩ := hmv.len
  have hMl := hM.len
  try simp only [Int.toNat_natCast]
  unfold closedV
  generalize (lineL l).length ^ W = n at *
  generalize ringsL l W = M at *
  have lnm : ∀ K : Value → Prop, ln1 mv K = K (.int .i64 n) := fun K => by rw [emv, hMl]; rfl
  unfold S34L0
  have hsum : ∀ i, i ≤ n → sumC ((List.range (i + 1)).map fun a => (nowK M a h).getD a 0) = min (sumC ((List.range i).map fun a => (nowK M a h).getD a 0) + (nowK M i h).getD i 0) 1099511627777 := fun i _ => by
    unfold sumC
    rw [List.range_succ, List.map_append, List.foldl_append]; rfl
  have hsr : ∀ i, i ≤ n → 0 ≤ sumC ((List.range i).map fun a => (nowK M a h).getD a 0) ∧ sumC ((List.range i).map fun a => (nowK M a h).getD a 0) ≤ 1099511627777 := fun i hi => by
    induction i with
    | zero => exact ⟨by show (0 : Int) ≤ 0; decide, by show (0 : Int) ≤ 1099511627777; decide⟩
    | succ i ih =>
      have := ih (by omega)
      have g := rng_getD (nowK_rng (a := i) hM h).1 i
      rw [hsum i (by omega)]
      omega
  refine ⟨fun t10 t11 wr => ∃ i : Nat, i ≤ n ∧ t11 = .int .i64 i ∧ t10 = .int .i64 (sumC ((List.range i).map fun a => (nowK M a h).getD a 0)) ∧ Kp w2 wr, fun _ t11 _ => n - (intOf t11).toNat, ⟨0, by omega, rfl, rfl, Kp.refl _⟩, ?_⟩
  rintro _ _ _ wr ⟨i, hi, rfl, rfl, kr⟩
  rw [lnm]
  by_cases hlt : i < n
  case neg =>
    have hlt' : ¬ (i : Int) < (n : Int) := by omega
    have ei : i = n := by omega
    subst ei
    simp only [r_lss, hlt', decide_false, r_condF, r_gtr]
    unfold limV
    by_cases hc : (1099511627776 : Int) < sumC ((List.range i).map fun a => (nowK M a h).getD a 0)
    · rw [if_pos hc]
      simp only [decide_eq_true hc, r_condT]
      exact ⟨by first | rfl | trivial, Kp.trans k1 (Kp.trans k2 kr)⟩
    · rw [if_neg hc]
      simp only [hc, decide_false, r_condF]
      exact ⟨by first | rfl | trivial, Kp.trans k1 (Kp.trans k2 kr)⟩
  have hlt' : (i : Int) < (n : Int) := by omega
  have hii : (i : Int).toNat = i := by omega
  simp only [r_lss, decide_eq_true hlt', r_condT]
  rw [lnm]
  refine mk30' (by omega) fun uv w3 ou k3 _ => ?_
  obtain ⟨ug, ucap, eu, hub2, uc, uf, uset⟩ := IntsAt.put ou (q := i) (by rw [List.length_replicate]; omega) 1
  have iau : ∀ K : Value → Prop, iaS 1 uv (.int .i64 i) K = K (.pointer (some ⟨ug, i, none⟩)) := fun K => by
    rw [eu, r_iaS _ _ _ _ _ _ _ (by omega) (by rw [List.length_replicate]; omega), hii, Nat.mul_one, Nat.zero_add]
  rw [iau, st3 uc uf]
  change IntsAt wr.heap.size _ uv (unitL n i) at uset
  have hch : Chg (fun q => q = ug) w3 (w3.setCell ⟨ug, i, none⟩ (.int .i64 1)) := Chg.setCell _ _ rfl
  generalize w3.setCell ⟨ug, i, none⟩ (.int .i64 1) = w4 at *
  have k4 : Kp wr w4 := Kp.of_chg k3 hch fun q e => by rw [e]; exact hub2
  have hul := unit_len n i
  refine r34_1 (w1 := wr) hM hnW hlt (by omega) (hsr i hi) (hmv.below kr) ((uset.rd iC_len).ints (by omega)) k4 fun w' k' => ?_
  exact ⟨⟨i + 1, by omega, by go_num, by rw [hsum i hi], Kp.trans kr k'⟩, by simp only [intOf]; omega⟩

end Go.Proofs.Ytgalbokmgffhkaa

/- Lifted texts, printed by program (gen.py): what each function's code asks. The ties are by the kernel. -/
namespace Go.Proofs.Ytgalbokmgffhkaa
open Go.Lf Go.RowKit

def S8 (t0 t1 t2 : Value) (w : World) (R : Ending → World → Prop) : Prop :=
  ln1 t0 fun t12 =>
  binQ Try.prog w .gtr 3 true t12 (.int .i64 40) fun t13 =>
  gd t13 false (fun k => k t0 w) w fun t15 w =>
  gd t13 false (fun k => k t1 w) w fun t16 w =>
  gd t13 false (fun k => k t2 w) w fun t17 w =>
  gd t13 false (fun k => callW Try.prog (.func (.func 23) #[] #[]) [t15, t16, t17] w k) w fun t18 w =>
  gd t13 false (fun k => binQ Try.prog w .eql 26 true t18 (.int .i64 0) fun v => k v w) w fun t19 w =>
  gd t13 false (fun k => k t19 w) w fun t20 w =>
  gd t20 true (fun k => k t0 w) w fun t21 w =>
  gd t20 true (fun k => k t1 w) w fun t22 w =>
  gd t20 true (fun k => callW Try.prog (.func (.func 24) #[] #[]) [t21, t22] w k) w fun t23 w =>
  gd t20 true (fun k => binQ Try.prog w .gtr 3 true t23 (.int .i64 512) fun v => k v w) w fun t24 w =>
  gd t13 false (fun k => pickQ t20 t24 (.bool false) fun v => k v w) w fun t25 w =>
  pickQ t13 (.bool true) t25 fun t26 =>
  condW t26 (
    callW Try.prog (.func (.func 18) #[] #[]) [] w fun t27 w =>
    R (.returned t27) w
  ) (
    callW Try.prog (.func (.func 33) #[] #[]) [t0, t1, t2] w fun t32 w =>
    exQ t32 0 fun t33 =>
    exQ t32 1 fun t34 =>
    callW Try.prog (.func (.func 34) #[] #[]) [t0, t1, t2] w fun t39 w =>
    exQ t39 0 fun t40 =>
    exQ t39 1 fun t41 =>
    binQ Try.prog w .eql 3 false t33 t40 fun t44 =>
    gd t44 true (fun k => k t34 w) w fun t46 w =>
    gd t44 true (fun k => k t41 w) w fun t47 w =>
    gd t44 true (fun k => binQ Try.prog w .eql 26 false t46 t47 fun v => k v w) w fun t48 w =>
    pickQ t44 t48 (.bool false) fun t49 =>
    gd t49 true (fun k => callW Try.prog (.func (.func 18) #[] #[]) [] w k) w fun t51 w =>
    pickQ t49 t51 (.bool false) fun t52 =>
    R (.returned t52) w
  )

def A8 : Ann where
  live := fun _ => []
  wr := fun _ _ => false
  sched := fun _ => .done

set_option maxRecDepth 100000 in
theorem ok8 : (codeOk Try.f8.ntmps A8 (Try.f8.body.getD .skip) 0 && Nat.ble 3 Try.f8.ntmps) = true := by kernel_rfl
set_option maxRecDepth 100000 in
theorem lift8 {t0 t1 t2 : Value} {w : World} {R : Ending → World → Prop} (h : S8 t0 t1 t2 w R) : Calls Try.prog 8 #[t0, t1, t2] w R :=
  calls_of_cw (fn := Try.f8) (c := Try.f8.body.getD .skip) A8 mixes Try.func8 (by kernel_rfl) ok8
    ((by kernel_rfl : (S8 t0 t1 t2 w R) = cw Try.prog A8 (Try.f8.body.getD .skip) 0 (bodyQ Try.prog Try.f8 R) (frOf #[t0, t1, t2]) w).mp h)

def S9 (t0 : Value) (w : World) (R : Ending → World → Prop) : Prop :=
  ln1 t0 fun t10 =>
  binQ Try.prog w .gtr 3 true t10 (.int .i64 40) fun t11 =>
  gd t11 false (fun k => k t0 w) w fun t13 w =>
  gd t11 false (fun k => callW Try.prog (.func (.func 35) #[] #[]) [t13] w k) w fun t14 w =>
  gd t11 false (fun k => k t14 w) w fun t15 w =>
  gd t15 true (fun k => k t0 w) w fun t16 w =>
  gd t15 true (fun k => callW Try.prog (.func (.func 36) #[] #[]) [t16] w k) w fun t17 w =>
  gd t15 true (fun k => unQ .not t17 fun v => k v w) w fun t18 w =>
  gd t11 false (fun k => pickQ t15 t18 (.bool false) fun v => k v w) w fun t19 w =>
  pickQ t11 (.bool true) t19 fun t20 =>
  condW t20 (
    callW Try.prog (.func (.func 18) #[] #[]) [] w fun t21 w =>
    R (.returned t21) w
  ) (
    callW Try.prog (.func (.func 37) #[] #[]) [t0] w fun t24 w =>
    exQ t24 0 fun t25 =>
    exQ t24 1 fun t26 =>
    exQ t24 2 fun t27 =>
    callW Try.prog (.func (.func 38) #[] #[]) [t0] w fun t30 w =>
    exQ t30 0 fun t31 =>
    exQ t30 1 fun t32 =>
    exQ t30 2 fun t33 =>
    binQ Try.prog w .eql 3 false t25 t31 fun t36 =>
    gd t36 true (fun k => k t26 w) w fun t38 w =>
    gd t36 true (fun k => k t32 w) w fun t39 w =>
    gd t36 true (fun k => binQ Try.prog w .eql 3 false t38 t39 fun v => k v w) w fun t40 w =>
    pickQ t36 t40 (.bool false) fun t41 =>
    gd t41 true (fun k => k t27 w) w fun t43 w =>
    gd t41 true (fun k => k t33 w) w fun t44 w =>
    gd t41 true (fun k => binQ Try.prog w .eql 26 false t43 t44 fun v => k v w) w fun t45 w =>
    pickQ t41 t45 (.bool false) fun t46 =>
    gd t46 true (fun k => callW Try.prog (.func (.func 18) #[] #[]) [] w k) w fun t48 w =>
    pickQ t46 t48 (.bool false) fun t49 =>
    R (.returned t49) w
  )

def A9 : Ann where
  live := fun _ => []
  wr := fun _ _ => false
  sched := fun _ => .done

set_option maxRecDepth 100000 in
theorem ok9 : (codeOk Try.f9.ntmps A9 (Try.f9.body.getD .skip) 0 && Nat.ble 1 Try.f9.ntmps) = true := by kernel_rfl
set_option maxRecDepth 100000 in
theorem lift9 {t0 : Value} {w : World} {R : Ending → World → Prop} (h : S9 t0 w R) : Calls Try.prog 9 #[t0] w R :=
  calls_of_cw (fn := Try.f9) (c := Try.f9.body.getD .skip) A9 mixes Try.func9 (by kernel_rfl) ok9
    ((by kernel_rfl : (S9 t0 w R) = cw Try.prog A9 (Try.f9.body.getD .skip) 0 (bodyQ Try.prog Try.f9 R) (frOf #[t0]) w).mp h)

def S12 (t0 t1 t2 : Value) (w : World) (R : Ending → World → Prop) : Prop :=
  ln1 t0 fun t19 =>
  binQ Try.prog w .gtr 3 true t19 (.int .i64 40) fun t20 =>
  gd t20 false (fun k => k t0 w) w fun t22 w =>
  gd t20 false (fun k => callW Try.prog (.func (.func 35) #[] #[]) [t22] w k) w fun t23 w =>
  gd t20 false (fun k => k t23 w) w fun t24 w =>
  gd t24 true (fun k => k t0 w) w fun t25 w =>
  gd t24 true (fun k => callW Try.prog (.func (.func 36) #[] #[]) [t25] w k) w fun t26 w =>
  gd t24 true (fun k => unQ .not t26 fun v => k v w) w fun t27 w =>
  gd t20 false (fun k => pickQ t24 t27 (.bool false) fun v => k v w) w fun t28 w =>
  pickQ t20 (.bool true) t28 fun t29 =>
  condW t29 (
    callW Try.prog (.func (.func 18) #[] #[]) [] w fun t30 w =>
    R (.returned t30) w
  ) (
    callW Try.prog (.func (.func 37) #[] #[]) [t0] w fun t33 w =>
    exQ t33 0 fun t34 =>
    exQ t33 1 fun t35 =>
    exQ t33 2 fun t36 =>
    binQ Try.prog w .neq 26 true t36 (.int .i64 0) fun t38 =>
    condW t38 (
      binQ Try.prog w .eql 26 true t36 (.int .i64 2) fun t40 =>
      gd t40 false (fun k => k t36 w) w fun t42 w =>
      gd t40 false (fun k => binQ Try.prog w .eql 26 true t42 (.int .i64 10) fun v => k v w) w fun t43 w =>
      pickQ t40 (.bool true) t43 fun t44 =>
      gd t44 true (fun k => k t34 w) w fun t46 w =>
      gd t44 true (fun k => binQ Try.prog w .eql 3 true t46 (.int .i64 0) fun v => k v w) w fun t47 w =>
      pickQ t44 t47 (.bool false) fun t48 =>
      gd t48 true (fun k => k t35 w) w fun t50 w =>
      gd t48 true (fun k => binQ Try.prog w .eql 3 true t50 (.int .i64 0) fun v => k v w) w fun t51 w =>
      pickQ t48 t51 (.bool false) fun t52 =>
      gd t52 true (fun k => callW Try.prog (.func (.func 18) #[] #[]) [] w k) w fun t54 w =>
      pickQ t52 t54 (.bool false) fun t55 =>
      R (.returned t55) w
    ) (
      binQ Try.prog w .rem 5 true t1 (.int .u8 4) fun t57 =>
      cv1 .i64 t57 fun t58 =>
      binQ Try.prog w .add 3 true (.int .i64 1) t58 fun t59 =>
      binQ Try.prog w .rem 5 true t2 (.int .u8 4) fun t61 =>
      cv1 .i64 t61 fun t62 =>
      binQ Try.prog w .add 3 true (.int .i64 1) t62 fun t63 =>
      callW Try.prog (.func (.func 27) #[] #[]) [t0, t59, t63] w fun t68 w =>
      exQ t68 0 fun t69 =>
      exQ t68 1 fun t70 =>
      callW Try.prog (.func (.func 33) #[] #[]) [t0, t34, t35] w fun t75 w =>
      exQ t75 0 fun t76 =>
      exQ t75 1 fun t77 =>
      callW Try.prog (.func (.func 33) #[] #[]) [t0, t59, t63] w fun t82 w =>
      exQ t82 0 fun t83 =>
      exQ t82 1 fun t84 =>
      binQ Try.prog w .neq 26 true t70 (.int .i64 0) fun t86 =>
      gd t86 false (fun k => k t76 w) w fun t88 w =>
      gd t86 false (fun k => binQ Try.prog w .lss 3 true t88 (.int .i64 1) fun v => k v w) w fun t89 w =>
      gd t86 false (fun k => k t89 w) w fun t90 w =>
      gd t90 true (fun k => k t77 w) w fun t91 w =>
      gd t90 true (fun k => binQ Try.prog w .neq 26 true t91 (.int .i64 8) fun v => k v w) w fun t92 w =>
      gd t86 false (fun k => pickQ t90 t92 (.bool false) fun v => k v w) w fun t93 w =>
      pickQ t86 (.bool true) t93 fun t94 =>
      gd t94 false (fun k => k t59 w) w fun t96 w =>
      gd t94 false (fun k => k t63 w) w fun t97 w =>
      gd t94 false (fun k => binQ Try.prog w .mul 3 false t96 t97 fun v => k v w) w fun t98 w =>
      gd t94 false (fun k => k t34 w) w fun t99 w =>
      gd t94 false (fun k => k t35 w) w fun t100 w =>
      gd t94 false (fun k => binQ Try.prog w .mul 3 false t99 t100 fun v => k v w) w fun t101 w =>
      gd t94 false (fun k => binQ Try.prog w .lss 3 false t98 t101 fun v => k v w) w fun t102 w =>
      gd t94 false (fun k => k t102 w) w fun t103 w =>
      gd t103 true (fun k => k t83 w) w fun t104 w =>
      gd t103 true (fun k => binQ Try.prog w .neq 3 true t104 (.int .i64 0) fun v => k v w) w fun t105 w =>
      gd t103 true (fun k => k t105 w) w fun t106 w =>
      gd t106 false (fun k => k t84 w) w fun t107 w =>
      gd t106 false (fun k => binQ Try.prog w .neq 26 true t107 (.int .i64 0) fun v => k v w) w fun t108 w =>
      gd t103 true (fun k => pickQ t106 (.bool true) t108 fun v => k v w) w fun t109 w =>
      gd t94 false (fun k => pickQ t103 t109 (.bool false) fun v => k v w) w fun t110 w =>
      pickQ t94 (.bool true) t110 fun t111 =>
      condW t111 (
        R (.returned (.bool false)) w
      ) (
        callW Try.prog (.func (.func 18) #[] #[]) [] w fun t112 w =>
        R (.returned t112) w
      )
    )
  )

def A12 : Ann where
  live := fun _ => []
  wr := fun _ _ => false
  sched := fun _ => .done

set_option maxRecDepth 100000 in
theorem ok12 : (codeOk Try.f12.ntmps A12 (Try.f12.body.getD .skip) 0 && Nat.ble 3 Try.f12.ntmps) = true := by kernel_rfl
set_option maxRecDepth 100000 in
theorem lift12 {t0 t1 t2 : Value} {w : World} {R : Ending → World → Prop} (h : S12 t0 t1 t2 w R) : Calls Try.prog 12 #[t0, t1, t2] w R :=
  calls_of_cw (fn := Try.f12) (c := Try.f12.body.getD .skip) A12 mixes Try.func12 (by kernel_rfl) ok12
    ((by kernel_rfl : (S12 t0 t1 t2 w R) = cw Try.prog A12 (Try.f12.body.getD .skip) 0 (bodyQ Try.prog Try.f12 R) (frOf #[t0, t1, t2]) w).mp h)

def S13 (t0 t1 t2 : Value) (w : World) (R : Ending → World → Prop) : Prop :=
  callW Try.prog (.func (.func 31) #[] #[]) [t0, t1, t2] w fun t21 w =>
  unQ .not t21 fun t22 =>
  condW t22 (
    callW Try.prog (.func (.func 18) #[] #[]) [] w fun t23 w =>
    R (.returned t23) w
  ) (
    callW Try.prog (.func (.func 25) #[] #[]) [t0, t1, t2] w fun t28 w =>
    exQ t28 0 fun t29 =>
    exQ t28 1 fun t30 =>
    callW Try.prog (.func (.func 46) #[] #[]) [t0] w fun t33 w =>
    callW Try.prog (.func (.func 25) #[] #[]) [t33, t2, t1] w fun t36 w =>
    exQ t36 0 fun t37 =>
    exQ t36 1 fun t38 =>
    callW Try.prog (.func (.func 47) #[] #[]) [t0] w fun t41 w =>
    callW Try.prog (.func (.func 25) #[] #[]) [t41, t1, t2] w fun t44 w =>
    exQ t44 0 fun t45 =>
    exQ t44 1 fun t46 =>
    binQ Try.prog w .neq 3 false t29 t37 fun t49 =>
    gd t49 false (fun k => k t37 w) w fun t51 w =>
    gd t49 false (fun k => k t45 w) w fun t52 w =>
    gd t49 false (fun k => binQ Try.prog w .neq 3 false t51 t52 fun v => k v w) w fun t53 w =>
    pickQ t49 (.bool true) t53 fun t54 =>
    gd t54 false (fun k => k t30 w) w fun t56 w =>
    gd t54 false (fun k => k t38 w) w fun t57 w =>
    gd t54 false (fun k => binQ Try.prog w .neq 26 false t56 t57 fun v => k v w) w fun t58 w =>
    pickQ t54 (.bool true) t58 fun t59 =>
    gd t59 false (fun k => k t38 w) w fun t61 w =>
    gd t59 false (fun k => k t46 w) w fun t62 w =>
    gd t59 false (fun k => binQ Try.prog w .neq 26 false t61 t62 fun v => k v w) w fun t63 w =>
    pickQ t59 (.bool true) t63 fun t64 =>
    condW t64 (
      R (.returned (.bool false)) w
    ) (
      callW Try.prog (.func (.func 27) #[] #[]) [t0, t1, t2] w fun t69 w =>
      exQ t69 0 fun t70 =>
      exQ t69 1 fun t71 =>
      binQ Try.prog w .neq 26 true t30 (.int .i64 0) fun t73 =>
      gd t73 true (fun k => k t30 w) w fun t75 w =>
      gd t73 true (fun k => binQ Try.prog w .neq 26 true t75 (.int .i64 8) fun v => k v w) w fun t76 w =>
      pickQ t73 t76 (.bool false) fun t77 =>
      condW t77 (
        binQ Try.prog w .eql 26 false t30 t71 fun t80 =>
        gd t80 true (fun k => callW Try.prog (.func (.func 18) #[] #[]) [] w k) w fun t82 w =>
        pickQ t80 t82 (.bool false) fun t83 =>
        R (.returned t83) w
      ) (
        binQ Try.prog w .eql 26 true t71 (.int .i64 0) fun t85 =>
        binQ Try.prog w .gtr 3 true t29 (.int .i64 0) fun t87 =>
        gd t87 false (fun k => k t30 w) w fun t89 w =>
        gd t87 false (fun k => binQ Try.prog w .eql 26 true t89 (.int .i64 8) fun v => k v w) w fun t90 w =>
        pickQ t87 (.bool true) t90 fun t91 =>
        binQ Try.prog w .neq 4 false t85 t91 fun t92 =>
        gd t92 false (fun k => k t71 w) w fun t94 w =>
        gd t92 false (fun k => binQ Try.prog w .neq 26 true t94 (.int .i64 0) fun v => k v w) w fun t95 w =>
        gd t92 false (fun k => k t95 w) w fun t96 w =>
        gd t96 true (fun k => k t71 w) w fun t97 w =>
        gd t96 true (fun k => binQ Try.prog w .neq 26 true t97 (.int .i64 10) fun v => k v w) w fun t98 w =>
        gd t92 false (fun k => pickQ t96 t98 (.bool false) fun v => k v w) w fun t99 w =>
        pickQ t92 (.bool true) t99 fun t100 =>
        condW t100 (
          R (.returned (.bool false)) w
        ) (
          binQ Try.prog w .eql 26 true t71 (.int .i64 0) fun t102 =>
          Join (fun (k_2 : World → Prop) =>
            condW t102 (
              callW Try.prog (.func (.func 21) #[] #[]) [t0, t70] w fun t106 w =>
              exQ t106 0 fun t107 =>
              exQ t106 1 fun t108 =>
              exQ t106 2 fun t109 =>
              binQ Try.prog w .neq 26 true t109 (.int .i64 0) fun t111 =>
              gd t111 false (fun k => k t107 w) w fun t113 w =>
              gd t111 false (fun k => unQ .not t113 fun v => k v w) w fun t114 w =>
              pickQ t111 (.bool true) t114 fun t115 =>
              gd t115 false (fun k => k t70 w) w fun t117 w =>
              gd t115 false (fun k => ln1 t117 fun v => k v w) w fun t118 w =>
              gd t115 false (fun k => k t2 w) w fun t119 w =>
              gd t115 false (fun k => binQ Try.prog w .neq 3 false t118 t119 fun v => k v w) w fun t120 w =>
              pickQ t115 (.bool true) t120 fun t121 =>
              gd t121 false (fun k => k t70 w) w fun t123 w =>
              gd t121 false (fun k => iaS 1 t123 (.int .i64 0) fun v => k v w) w fun t124 w =>
              gd t121 false (fun k => ld1 w t124 fun v => k v w) w fun t125 w =>
              gd t121 false (fun k => ln1 t125 fun v => k v w) w fun t126 w =>
              gd t121 false (fun k => k t1 w) w fun t127 w =>
              gd t121 false (fun k => binQ Try.prog w .neq 3 false t126 t127 fun v => k v w) w fun t128 w =>
              pickQ t121 (.bool true) t128 fun t129 =>
              condW t129 (
                R (.returned (.bool false)) w
              ) (
                k_2 w
              )
            ) (
              k_2 w
            )
          ) fun w =>
          callW Try.prog (.func (.func 24) #[] #[]) [t0, t1] w fun t132_2 w =>
          binQ Try.prog w .gtr 3 true t132_2 (.int .i64 512) fun t133_2 =>
          condW t133_2 (
            callW Try.prog (.func (.func 18) #[] #[]) [] w fun t134_2 w =>
            R (.returned t134_2) w
          ) (
            callW Try.prog (.func (.func 33) #[] #[]) [t0, t1, t2] w fun t139_2 w =>
            exQ t139_2 0 fun t140_2 =>
            exQ t139_2 1 fun t141_2 =>
            binQ Try.prog w .eql 26 true t30 (.int .i64 8) fun t143_2 =>
            gd t143_2 false (fun k => k t141_2 w) w fun t145_2 w =>
            gd t143_2 false (fun k => binQ Try.prog w .eql 26 true t145_2 (.int .i64 0) fun v => k v w) w fun t146_2 w =>
            gd t143_2 false (fun k => k t146_2 w) w fun t147_2 w =>
            gd t147_2 true (fun k => k t140_2 w) w fun t148_2 w =>
            gd t147_2 true (fun k => k t29 w) w fun t149_2 w =>
            gd t147_2 true (fun k => binQ Try.prog w .leq 3 false t148_2 t149_2 fun v => k v w) w fun t150_2 w =>
            gd t143_2 false (fun k => pickQ t147_2 t150_2 (.bool false) fun v => k v w) w fun t151_2 w =>
            pickQ t143_2 (.bool true) t151_2 fun t152_2 =>
            gd t152_2 true (fun k => callW Try.prog (.func (.func 18) #[] #[]) [] w k) w fun t154_2 w =>
            pickQ t152_2 t154_2 (.bool false) fun t155_2 =>
            R (.returned t155_2) w
          )
        )
      )
    )
  )

def A13 : Ann where
  live := fun _ => []
  wr := fun _ _ => false
  sched := fun _ => .done

set_option maxRecDepth 100000 in
theorem ok13 : (codeOk Try.f13.ntmps A13 (Try.f13.body.getD .skip) 0 && Nat.ble 3 Try.f13.ntmps) = true := by kernel_rfl
set_option maxRecDepth 100000 in
theorem lift13 {t0 t1 t2 : Value} {w : World} {R : Ending → World → Prop} (h : S13 t0 t1 t2 w R) : Calls Try.prog 13 #[t0, t1, t2] w R :=
  calls_of_cw (fn := Try.f13) (c := Try.f13.body.getD .skip) A13 mixes Try.func13 (by kernel_rfl) ok13
    ((by kernel_rfl : (S13 t0 t1 t2 w R) = cw Try.prog A13 (Try.f13.body.getD .skip) 0 (bodyQ Try.prog Try.f13 R) (frOf #[t0, t1, t2]) w).mp h)

def S36 (t0 : Value) (w : World) (R : Ending → World → Prop) : Prop :=
  callW Try.prog (.func (.func 70) #[] #[]) [t0] w fun t4 w =>
  ln1 t4 fun t5 =>
  binQ Try.prog w .leq 3 true t5 (.int .i64 2) fun t6 =>
  gd t6 true (fun k => k t0 w) w fun t8 w =>
  gd t6 true (fun k => callW Try.prog (.func (.func 46) #[] #[]) [t8] w k) w fun t9 w =>
  gd t6 true (fun k => callW Try.prog (.func (.func 70) #[] #[]) [t9] w k) w fun t10 w =>
  gd t6 true (fun k => ln1 t10 fun v => k v w) w fun t11 w =>
  gd t6 true (fun k => binQ Try.prog w .leq 3 true t11 (.int .i64 2) fun v => k v w) w fun t12 w =>
  pickQ t6 t12 (.bool false) fun t13 =>
  R (.returned t13) w

def A36 : Ann where
  live := fun _ => []
  wr := fun _ _ => false
  sched := fun _ => .done

set_option maxRecDepth 100000 in
theorem ok36 : (codeOk Try.f36.ntmps A36 (Try.f36.body.getD .skip) 0 && Nat.ble 1 Try.f36.ntmps) = true := by kernel_rfl
set_option maxRecDepth 100000 in
theorem lift36 {t0 : Value} {w : World} {R : Ending → World → Prop} (h : S36 t0 w R) : Calls Try.prog 36 #[t0] w R :=
  calls_of_cw (fn := Try.f36) (c := Try.f36.body.getD .skip) A36 mixes Try.func36 (by kernel_rfl) ok36
    ((by kernel_rfl : (S36 t0 w R) = cw Try.prog A36 (Try.f36.body.getD .skip) 0 (bodyQ Try.prog Try.f36 R) (frOf #[t0]) w).mp h)

def S38L1 (t0 t5 : Value) (next : Value → World → Prop) (R : Ending → World → Prop) (w : World) : Prop :=
  Loop1 (.int .i64 1) w fun _ t6 w next_2 =>
    binQ Try.prog w .leq 3 true t6 (.int .i64 4) fun t17 =>
    condW t17 (
      Join (fun (k_2 : World → Prop) =>
        binQ Try.prog w .rem 3 false t5 t6 fun t22 =>
        binQ Try.prog w .neq 3 true t22 (.int .i64 0) fun t23 =>
        gd t23 false (fun k => k t5 w) w fun t25 w =>
        gd t23 false (fun k => k t6 w) w fun t26 w =>
        gd t23 false (fun k => binQ Try.prog w .quo 3 false t25 t26 fun v => k v w) w fun t27 w =>
        gd t23 false (fun k => binQ Try.prog w .gtr 3 true t27 (.int .i64 4) fun v => k v w) w fun t28 w =>
        pickQ t23 (.bool true) t28 fun t29 =>
        condW t29 (
          k_2 w
        ) (
          binQ Try.prog w .quo 3 false t5 t6 fun t35 =>
          callW Try.prog (.func (.func 34) #[] #[]) [t0, t6, t35] w fun t36 w =>
          exQ t36 0 fun t37 =>
          exQ t36 1 fun t38 =>
          binQ Try.prog w .gtr 3 true t37 (.int .i64 0) fun t40 =>
          gd t40 false (fun k => k t38 w) w fun t42 w =>
          gd t40 false (fun k => binQ Try.prog w .eql 26 true t42 (.int .i64 8) fun v => k v w) w fun t43 w =>
          pickQ t40 (.bool true) t43 fun t44 =>
          condW t44 (
            Drew w fun w =>
            binQ Try.prog w .quo 3 false t5 t6 fun t48 =>
            R (.returned (.tuple #[t6, t48, (.int .i64 0)])) w
          ) (
            k_2 w
          )
        )
      ) fun w =>
      binQ Try.prog w .add 3 true t6 (.int .i64 1) fun t19_2 =>
      next_2 t19_2 w
    ) (
      binQ Try.prog w .add 3 true t5 (.int .i64 1) fun t15 =>
      next t15 w
    )

def S38L0 (t0 : Value) (R : Ending → World → Prop) (w : World) : Prop :=
  Loop1 (.int .i64 1) w fun _ t5 w next =>
    binQ Try.prog w .leq 3 true t5 (.int .i64 16) fun t13 =>
    condW t13 (
      S38L1 t0 t5 next R w
    ) (
      R (.returned (.tuple #[(.int .i64 0), (.int .i64 0), (.int .i64 10)])) w
    )

def S38 (t0 : Value) (w : World) (R : Ending → World → Prop) : Prop :=
  callW Try.prog (.func (.func 35) #[] #[]) [t0] w fun t10 w =>
  unQ .not t10 fun t11 =>
  condW t11 (
    R (.returned (.tuple #[(.int .i64 0), (.int .i64 0), (.int .i64 2)])) w
  ) (
    S38L0 t0 R w
  )

def A38 : Ann where
  live := fun
    | 0 => [5]
    | 2 => [6]
    | _ => []
  wr := fun
    | 0 => fun i => (Nat.ble 2 i && Nat.ble i 8) || (Nat.ble 12 i && Nat.ble i 48)
    | 2 => fun i => (Nat.ble 2 i && Nat.ble i 4) || (Nat.ble 6 i && Nat.ble i 8) || (Nat.ble 16 i && Nat.ble i 48)
    | _ => fun _ => false
  sched := fun
    | 12 => (.take 0 (.take 1 (.take 2 (.take 3 (.take 4 (.take 5 (.take 6 .done)))))))
    | _ => .done

set_option maxRecDepth 100000 in
theorem ok38 : (codeOk Try.f38.ntmps A38 (Try.f38.body.getD .skip) 0 && Nat.ble 1 Try.f38.ntmps) = true := by kernel_rfl
set_option maxRecDepth 100000 in
theorem lift38 {t0 : Value} {w : World} {R : Ending → World → Prop} (h : S38 t0 w R) : Calls Try.prog 38 #[t0] w R :=
  calls_of_cw (fn := Try.f38) (c := Try.f38.body.getD .skip) A38 mixes Try.func38 (by kernel_rfl) ok38
    ((by kernel_rfl : (S38 t0 w R) = cw Try.prog A38 (Try.f38.body.getD .skip) 0 (bodyQ Try.prog Try.f38 R) (frOf #[t0]) w).mp h)

def S47L0 (t0 : Value) (R : Ending → World → Prop) (w : World) : Prop :=
  Loop2 (.slice none 0 0) (.int .i64 0) w fun _ t3 t4 w next =>
    ln1 t0 fun t7 =>
    binQ Try.prog w .lss 3 false t4 t7 fun t8 =>
    condW t8 (
      Drew w fun w =>
      iaS 4 t0 t4 fun t14 =>
      fa1 t14 0 fun t15 =>
      ld1 w t15 fun t16 =>
      iaS 4 t0 t4 fun t19 =>
      fa1 t19 3 fun t20 =>
      ld1 w t20 fun t21 =>
      iaS 4 t0 t4 fun t24 =>
      fa1 t24 2 fun t25 =>
      ld1 w t25 fun t26 =>
      iaS 4 t0 t4 fun t29 =>
      fa1 t29 1 fun t30 =>
      ld1 w t30 fun t31 =>
      bdQ Try.prog 32 [(0, t16), (1, t21), (2, t26), (3, t31)] fun t32 =>
      bsW Try.prog 22 1 [(0, t32)] w <| keepB w fun t33 w =>
      semW Try.prog (apS [22, 22] 22 [t3, t33]) w fun t34 w =>
      binQ Try.prog w .add 3 true t4 (.int .i64 1) fun t10 =>
      next t34 t10 w
    ) (
      R (.returned t3) w
    )



def S47 (t0 : Value) (w : World) (R : Ending → World → Prop) : Prop :=
  S47L0 t0 R w

def A47 : Ann where
  live := fun
    | 0 => [3, 4]
    | _ => []
  wr := fun
    | 0 => fun i => (Nat.ble 3 i && Nat.ble i 34)
    | _ => fun _ => false
  sched := fun
    | 5 => (.take 0 (.take 1 (.take 2 (.take 3 (.take 4 (.take 5 (.take 6 (.take 7 (.take 8 (.take 9 (.take 10 (.take 11 (.take 12 (.take 13 (.take 14 (.take 15 (.take 16 (.take 17 (.take 18 (.take 19 (.take 20 (.take 21 (.eff 22 (.bar 23 (.take 24 .done)))))))))))))))))))))))))
    | _ => .done

set_option maxRecDepth 100000 in
theorem ok47 : (codeOk Try.f47.ntmps A47 (Try.f47.body.getD .skip) 0 && Nat.ble 1 Try.f47.ntmps) = true := by kernel_rfl
set_option maxRecDepth 100000 in
theorem lift47 {t0 : Value} {w : World} {R : Ending → World → Prop} (h : S47 t0 w R) : Calls Try.prog 47 #[t0] w R :=
  calls_of_cw (fn := Try.f47) (c := Try.f47.body.getD .skip) A47 mixes Try.func47 (by kernel_rfl) ok47
    ((by kernel_rfl : (S47 t0 w R) = cw Try.prog A47 (Try.f47.body.getD .skip) 0 (bodyQ Try.prog Try.f47 R) (frOf #[t0]) w).mp h)

theorem fok8 : fnOk Try.prog 8 = true := by kernel_rfl
theorem fok9 : fnOk Try.prog 9 = true := by kernel_rfl
theorem fok12 : fnOk Try.prog 12 = true := by kernel_rfl
theorem fok13 : fnOk Try.prog 13 = true := by kernel_rfl
theorem fok36 : fnOk Try.prog 36 = true := by kernel_rfl
theorem fok38 : fnOk Try.prog 38 = true := by kernel_rfl
theorem fok47 : fnOk Try.prog 47 = true := by kernel_rfl
end Go.Proofs.Ytgalbokmgffhkaa

/- Contract: WangCloses. -/
namespace Go.Proofs.Ytgalbokmgffhkaa
open Go.Lf Go.RowKit Go.Wg

theorem closeV_form (l : List Tile) (a b : Int) : ∃ n e : Int, closeV l a b = .tuple #[.int .i64 n, .int .i64 e] := by
  unfold closeV limV
  split
  · split
    · exact ⟨_, _, rfl⟩
    · exact ⟨_, _, rfl⟩
  · exact ⟨_, _, rfl⟩

set_option maxRecDepth 100000 in
theorem closes_calls {v : Value} {l : List Tile} (a b : Int) (w : World) (hr : RdT w v l) : Calls Try.prog 8 #[v, .int .i64 a, .int .i64 b] w fun e w' => e = .returned (.bool true) ∧ Kp w w' := by
  have hr0 := hr
  obtain ⟨va, vcap, rfl, hvc⟩ := hr.len
  refine lift8 ?_
  unfold S8
  have fin : ∀ (w' : World), Kp w w' → Calls Try.prog 18 #[] w' fun e w'' => e = .returned (.bool true) ∧ Kp w w'' := fun w' k => (law_alive w').mono fun e w'' h => ⟨h.1, Kp.trans k h.2⟩
  by_cases hl : (40 : Int) < (l.length : Int)
  · simp (disch := omega) only [r_ln, r_pick, r_pickT, r_pickF, r_condT, r_condF, r_gdTT, r_gdFF, r_gdTF, r_gdFT, r_gqTT, r_gqFF, r_gqTF, r_gqFT, r_not, r_lss, r_leq, r_gtr, r_geq, r_eql, r_neq, r_add, r_sub, r_min2, r_max2, r_min3, r_max3, r_fa, r_iaS, r_iaA, r_ex2a, r_ex2b, r_ex3a, r_ex3b, r_ex3c, r_nc, r_keepE, Nat.zero_add, Nat.add_zero, Nat.mul_one, Int.toNat_natCast, toNat_sub1, toNat_add1, decide_true, decide_false, Bool.not_true, Bool.not_false, if_true, if_false, Bool.false_eq_true, reduceCtorEq, decide_eq_true hl, r_gdU]
    refine r_use fok18 (fin w (Kp.refl _)) rfl ?_
    rintro _ w1 ⟨rfl, k1⟩
    exact ⟨_, rfl, by first | rfl | trivial, k1⟩
  simp (disch := omega) only [r_ln, r_pick, r_pickT, r_pickF, r_condT, r_condF, r_gdTT, r_gdFF, r_gdTF, r_gdFT, r_gqTT, r_gqFF, r_gqTF, r_gqFT, r_not, r_lss, r_leq, r_gtr, r_geq, r_eql, r_neq, r_add, r_sub, r_min2, r_max2, r_min3, r_max3, r_fa, r_iaS, r_iaA, r_ex2a, r_ex2b, r_ex3a, r_ex3b, r_ex3c, r_nc, r_keepE, Nat.zero_add, Nat.add_zero, Nat.mul_one, Int.toNat_natCast, toNat_sub1, toNat_add1, decide_true, decide_false, Bool.not_true, Bool.not_false, if_true, if_false, Bool.false_eq_true, reduceCtorEq, hl, r_gdU]
  refine r_use fok23 (order_calls a b w hr0) rfl ?_
  rintro _ w1 ⟨rfl, k1⟩
  refine ⟨_, rfl, ?_⟩
  obtain ⟨n, e, hcv⟩ := closeV_form l a b
  have hself : ∀ x : Int, decide (x = x) = true := fun x => decide_eq_true rfl
  have go : ∀ (w2 : World), Kp w w2 →
      callW Try.prog (.func (.func 33) #[] #[]) [.slice va l.length vcap, .int .i64 a, .int .i64 b] w2 fun t32 w =>
      exQ t32 0 fun t33 =>
      exQ t32 1 fun t34 =>
      callW Try.prog (.func (.func 34) #[] #[]) [.slice va l.length vcap, .int .i64 a, .int .i64 b] w fun t39 w =>
      exQ t39 0 fun t40 =>
      exQ t39 1 fun t41 =>
      binQ Try.prog w .eql 3 false t33 t40 fun t44 =>
      gd t44 true (fun k => k t34 w) w fun t46 w =>
      gd t44 true (fun k => k t41 w) w fun t47 w =>
      gd t44 true (fun k => binQ Try.prog w .eql 26 false t46 t47 fun v => k v w) w fun t48 w =>
      pickQ t44 t48 (.bool false) fun t49 =>
      gd t49 true (fun k => callW Try.prog (.func (.func 18) #[] #[]) [] w k) w fun t51 w =>
      pickQ t49 t51 (.bool false) fun t52 =>
      (Ending.returned t52 = .returned (.bool true) ∧ Kp _ w) := fun w2 k2 => by
    refine r_use fok33 (closed_calls a b w2 (hr0.kp k2)) rfl ?_
    rintro _ w3 ⟨rfl, k3⟩
    refine ⟨_, rfl, ?_⟩
    have k03 := Kp.trans k2 k3
    rw [hcv]
    simp (disch := omega) only [r_ln, r_pick, r_pickT, r_pickF, r_condT, r_condF, r_gdTT, r_gdFF, r_gdTF, r_gdFT, r_gqTT, r_gqFF, r_gqTF, r_gqFT, r_not, r_lss, r_leq, r_gtr, r_geq, r_eql, r_neq, r_add, r_sub, r_min2, r_max2, r_min3, r_max3, r_fa, r_iaS, r_iaA, r_ex2a, r_ex2b, r_ex3a, r_ex3b, r_ex3c, r_nc, r_keepE, Nat.zero_add, Nat.add_zero, Nat.mul_one, Int.toNat_natCast, toNat_sub1, toNat_add1, decide_true, decide_false, Bool.not_true, Bool.not_false, if_true, if_false, Bool.false_eq_true, reduceCtorEq]
    refine r_use fok34 (refclosed_calls a b w3 (hr0.kp k03)) rfl ?_
    rintro _ w4 ⟨rfl, k4⟩
    refine ⟨_, rfl, ?_⟩
    have k04 := Kp.trans k03 k4
    rw [hcv]
    simp (disch := omega) only [r_ln, r_pick, r_pickT, r_pickF, r_condT, r_condF, r_gdTT, r_gdFF, r_gdTF, r_gdFT, r_gqTT, r_gqFF, r_gqTF, r_gqFT, r_not, r_lss, r_leq, r_gtr, r_geq, r_eql, r_neq, r_add, r_sub, r_min2, r_max2, r_min3, r_max3, r_fa, r_iaS, r_iaA, r_ex2a, r_ex2b, r_ex3a, r_ex3b, r_ex3c, r_nc, r_keepE, Nat.zero_add, Nat.add_zero, Nat.mul_one, Int.toNat_natCast, toNat_sub1, toNat_add1, decide_true, decide_false, Bool.not_true, Bool.not_false, if_true, if_false, Bool.false_eq_true, reduceCtorEq, hself]
    refine r_use fok18 (fin w4 k04) rfl ?_
    rintro _ w5 ⟨rfl, k5⟩
    refine ⟨_, rfl, ?_⟩
    simp (disch := omega) only [r_ln, r_pick, r_pickT, r_pickF, r_condT, r_condF, r_gdTT, r_gdFF, r_gdTF, r_gdFT, r_gqTT, r_gqFF, r_gqTF, r_gqFT, r_not, r_lss, r_leq, r_gtr, r_geq, r_eql, r_neq, r_add, r_sub, r_min2, r_max2, r_min3, r_max3, r_fa, r_iaS, r_iaA, r_ex2a, r_ex2b, r_ex3a, r_ex3b, r_ex3c, r_nc, r_keepE, Nat.zero_add, Nat.add_zero, Nat.mul_one, Int.toNat_natCast, toNat_sub1, toNat_add1, decide_true, decide_false, Bool.not_true, Bool.not_false, if_true, if_false, Bool.false_eq_true, reduceCtorEq]
    exact ⟨by first | rfl | trivial, k5⟩
  rcases ordErr_cases l a b with he | he
  · obtain ⟨hs, W, H, eW, eH, hW, hH⟩ := ord_ok he
    subst eW
    subst eH
    rw [he]
    simp (disch := omega) only [r_ln, r_pick, r_pickT, r_pickF, r_condT, r_condF, r_gdTT, r_gdFF, r_gdTF, r_gdFT, r_gqTT, r_gqFF, r_gqTF, r_gqFT, r_not, r_lss, r_leq, r_gtr, r_geq, r_eql, r_neq, r_add, r_sub, r_min2, r_max2, r_min3, r_max3, r_fa, r_iaS, r_iaA, r_ex2a, r_ex2b, r_ex3a, r_ex3b, r_ex3c, r_nc, r_keepE, Nat.zero_add, Nat.add_zero, Nat.mul_one, Int.toNat_natCast, toNat_sub1, toNat_add1, decide_true, decide_false, Bool.not_true, Bool.not_false, if_true, if_false, Bool.false_eq_true, reduceCtorEq, hself, r_gdU]
    refine r_use fok24 (states_calls w1 (hr0.kp k1) hs hW.2) rfl ?_
    rintro _ w2 ⟨rfl, k2⟩
    refine ⟨_, rfl, ?_⟩
    have k02 := Kp.trans k1 k2
    by_cases hg : (512 : Int) < ((allS l W : Nat) : Int)
    · simp (disch := omega) only [r_ln, r_pick, r_pickT, r_pickF, r_condT, r_condF, r_gdTT, r_gdFF, r_gdTF, r_gdFT, r_gqTT, r_gqFF, r_gqTF, r_gqFT, r_not, r_lss, r_leq, r_gtr, r_geq, r_eql, r_neq, r_add, r_sub, r_min2, r_max2, r_min3, r_max3, r_fa, r_iaS, r_iaA, r_ex2a, r_ex2b, r_ex3a, r_ex3b, r_ex3c, r_nc, r_keepE, Nat.zero_add, Nat.add_zero, Nat.mul_one, Int.toNat_natCast, toNat_sub1, toNat_add1, decide_true, decide_false, Bool.not_true, Bool.not_false, if_true, if_false, Bool.false_eq_true, reduceCtorEq, decide_eq_true hg, r_gdU]
      refine r_use fok18 (fin w2 k02) rfl ?_
      rintro _ w3 ⟨rfl, k3⟩
      exact ⟨_, rfl, by first | rfl | trivial, k3⟩
    · simp (disch := omega) only [r_ln, r_pick, r_pickT, r_pickF, r_condT, r_condF, r_gdTT, r_gdFF, r_gdTF, r_gdFT, r_gqTT, r_gqFF, r_gqTF, r_gqFT, r_not, r_lss, r_leq, r_gtr, r_geq, r_eql, r_neq, r_add, r_sub, r_min2, r_max2, r_min3, r_max3, r_fa, r_iaS, r_iaA, r_ex2a, r_ex2b, r_ex3a, r_ex3b, r_ex3c, r_nc, r_keepE, Nat.zero_add, Nat.add_zero, Nat.mul_one, Int.toNat_natCast, toNat_sub1, toNat_add1, decide_true, decide_false, Bool.not_true, Bool.not_false, if_true, if_false, Bool.false_eq_true, reduceCtorEq, hg, r_gdU]
      exact go w2 k02
  · rw [he]
    have h20 : decide ((2 : Int) = 0) = false := by decide
    simp (disch := omega) only [r_ln, r_pick, r_pickT, r_pickF, r_condT, r_condF, r_gdTT, r_gdFF, r_gdTF, r_gdFT, r_gqTT, r_gqFF, r_gqTF, r_gqFT, r_not, r_lss, r_leq, r_gtr, r_geq, r_eql, r_neq, r_add, r_sub, r_min2, r_max2, r_min3, r_max3, r_fa, r_iaS, r_iaA, r_ex2a, r_ex2b, r_ex3a, r_ex3b, r_ex3c, r_nc, r_keepE, Nat.zero_add, Nat.add_zero, Nat.mul_one, Int.toNat_natCast, toNat_sub1, toNat_add1, decide_true, decide_false, Bool.not_true, Bool.not_false, if_true, if_false, Bool.false_eq_true, reduceCtorEq, h20, r_gdU]
    exact go w1 k1

end Go.Proofs.Ytgalbokmgffhkaa
